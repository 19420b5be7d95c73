/- Arenas that are nil, or were not returned by New. Printed by tools/gen_arn.py. -/
import Derived.Test.YtomjefplacgoeaaDoorArArg
namespace Go.Proofs.YtomjefplacgoeaaDoor
open Go.RowKit Go.Sort

/-- a value that is no arena, in a world and in all that follow -/
def NoA (w : World) (a : Value) : Prop := ∀ w', Below w.heap.size w w' → Calls Tryd.prog 36 #[a] w' fun e w'' => e = .returned (.bool true) ∧ w' = w''
theorem NoA.below {w w' : World} {a : Value} (h : NoA w a) (hb : Below w.heap.size w w') : NoA w' a := fun _ hb2 => h _ (next hb hb2)
set_option maxRecDepth 100000 in
set_option maxHeartbeats 2000000 in
theorem noA_nil (w : World) : NoA w (.pointer none) := by
  intro w' _
  go_enter Tryd.func36, Tryd.ntmps36
  go_wp2_with fail
  go_ret
  exact ⟨rfl, rfl⟩
set_option maxRecDepth 100000 in
set_option maxHeartbeats 2000000 in
theorem noA_zero (w : World) (A : Nat) (h : w.heap[A]? = some (.cells #[.slice none 0 0, .int .i64 0, .slice none 0 0, .slice none 0 0, .nilFunc] 70)) : NoA w (.pointer (some ⟨A, 0, none⟩)) := by
  intro w' hb
  have hA : A < w.heap.size := (Array.getElem?_eq_some_iff.1 h).1
  have c4 : w'.cell? ⟨A, 4, none⟩ = some .nilFunc := cell_in ((hb.block A hA).trans h) rfl
  have en := eq_nilFunc
  clear h hb hA
  go_enter Tryd.func36, Tryd.ntmps36
  go_wp2_with fail
  go_ret
  exact ⟨rfl, rfl⟩
set_option maxRecDepth 100000 in
set_option maxHeartbeats 2000000 in
theorem region_nil {w : World} {a : Value} (s : ByteArray) (k : Int) (h : NoA w a) :
    Calls Tryd.prog 17 #[a, .string s, .int .i64 k] w fun e w' => e = .returned (.tuple #[.int .i64 0, .int .i64 1]) ∧ Below w.heap.size w w' := by
  have KN := Lib.hid (h w (Below.refl _ _))
  clear h
  go_enter Tryd.func17, Tryd.ntmps17
  go_wp2_with fail
  refine KN.out.mono ?_
  rintro e w1 ⟨rfl, rfl⟩
  go_wp2_with fail
  go_ret2
  exact ⟨rfl, Below.refl _ _⟩
set_option maxRecDepth 100000 in
set_option maxHeartbeats 2000000 in
theorem step_nil {w : World} {a : Value} (k t : Int) (h : NoA w a) :
    Calls Tryd.prog 35 #[a, .int .i64 k, .int .i64 t] w fun e w' => e = .returned (.int .i64 1) ∧ Below w.heap.size w w' := by
  have KN := Lib.hid (h w (Below.refl _ _))
  clear h
  go_enter Tryd.func35, Tryd.ntmps35
  go_wp2_with fail
  refine KN.out.mono ?_
  rintro e w1 ⟨rfl, rfl⟩
  go_wp2_with fail
  go_ret
  exact ⟨rfl, Below.refl _ _⟩
set_option maxRecDepth 100000 in
set_option maxHeartbeats 2000000 in
theorem has_nil {w : World} {a : Value} (k t : Int) (h : NoA w a) :
    Calls Tryd.prog 23 #[a, .int .i64 k, .int .i64 t] w fun e w' => e = .returned (.int .i64 1) ∧ Below w.heap.size w w' := by
  have KN := Lib.hid (h w (Below.refl _ _))
  clear h
  go_enter Tryd.func23, Tryd.ntmps23
  go_wp2_with fail
  refine KN.out.mono ?_
  rintro e w1 ⟨rfl, rfl⟩
  go_wp2_with fail
  go_ret
  exact ⟨rfl, Below.refl _ _⟩
set_option maxRecDepth 100000 in
set_option maxHeartbeats 2000000 in
theorem room_nil {w : World} {a : Value} (k : Int) (h : NoA w a) :
    Calls Tryd.prog 24 #[a, .int .i64 k] w fun e w' => e = .returned (.int .i64 1) ∧ Below w.heap.size w w' := by
  have KN := Lib.hid (h w (Below.refl _ _))
  clear h
  go_enter Tryd.func24, Tryd.ntmps24
  go_wp2_with fail
  refine KN.out.mono ?_
  rintro e w1 ⟨rfl, rfl⟩
  go_wp2_with fail
  go_ret
  exact ⟨rfl, Below.refl _ _⟩
set_option maxRecDepth 100000 in
set_option maxHeartbeats 2000000 in
theorem steps_nil {w : World} {a : Value}  (h : NoA w a) :
    Calls Tryd.prog 20 #[a] w fun e w' => e = .returned (.int .i64 0) ∧ Below w.heap.size w w' := by
  have KN := Lib.hid (h w (Below.refl _ _))
  clear h
  go_enter Tryd.func20, Tryd.ntmps20
  go_wp2_with fail
  refine KN.out.mono ?_
  rintro e w1 ⟨rfl, rfl⟩
  go_wp2_with fail
  go_ret
  exact ⟨rfl, Below.refl _ _⟩
set_option maxRecDepth 100000 in
set_option maxHeartbeats 2000000 in
theorem since_nil {w : World} {a : Value} (k : Int) (h : NoA w a) :
    Calls Tryd.prog 21 #[a, .int .i64 k] w fun e w' => e = .returned (.tuple #[.slice none 0 0, .int .i64 1]) ∧ Below w.heap.size w w' := by
  have KN := Lib.hid (h w (Below.refl _ _))
  clear h
  go_enter Tryd.func21, Tryd.ntmps21
  go_wp2_with fail
  refine KN.out.mono ?_
  rintro e w1 ⟨rfl, rfl⟩
  go_wp2_with fail
  go_ret2
  exact ⟨rfl, Below.refl _ _⟩
set_option maxRecDepth 100000 in
set_option maxHeartbeats 2000000 in
theorem forget_nil {w : World} {a : Value}  (h : NoA w a) :
    Calls Tryd.prog 25 #[a] w fun e w' => e = .returned (.int .i64 1) ∧ Below w.heap.size w w' := by
  have KN := Lib.hid (h w (Below.refl _ _))
  clear h
  go_enter Tryd.func25, Tryd.ntmps25
  go_wp2_with fail
  refine KN.out.mono ?_
  rintro e w1 ⟨rfl, rfl⟩
  go_wp2_with fail
  go_ret
  exact ⟨rfl, Below.refl _ _⟩
set_option maxRecDepth 100000 in
set_option maxHeartbeats 2000000 in
theorem cells_nil {w : World} {a : Value}  (h : NoA w a) :
    Calls Tryd.prog 16 #[a] w fun e w' => e = .returned (.slice none 0 0) ∧ Below w.heap.size w w' := by
  have KN := Lib.hid (h w (Below.refl _ _))
  clear h
  go_enter Tryd.func16, Tryd.ntmps16
  go_wp2_with fail
  refine KN.out.mono ?_
  rintro e w1 ⟨rfl, rfl⟩
  go_wp2_with fail
  go_ret
  exact ⟨rfl, Below.refl _ _⟩
set_option maxRecDepth 100000 in
set_option maxHeartbeats 2000000 in
theorem regions_nil {w : World} {a : Value}  (h : NoA w a) :
    Calls Tryd.prog 19 #[a] w fun e w' => e = .returned (.slice none 0 0) ∧ Below w.heap.size w w' := by
  have KN := Lib.hid (h w (Below.refl _ _))
  clear h
  go_enter Tryd.func19, Tryd.ntmps19
  go_wp2_with fail
  refine KN.out.mono ?_
  rintro e w1 ⟨rfl, rfl⟩
  go_wp2_with fail
  go_ret
  exact ⟨rfl, Below.refl _ _⟩
set_option maxRecDepth 100000 in
set_option maxHeartbeats 2000000 in
theorem load_nil {w : World} {a : Value} (t : Int) (h : NoA w a) :
    Calls Tryd.prog 13 #[a, .int .i64 t] w fun e w' => e = .returned (.tuple #[.int .u64 0, .int .i64 1]) ∧ Below w.heap.size w w' := by
  have K := Lib.hid (step_nil 1 t h)
  clear h
  go_enter Tryd.func13, Tryd.ntmps13
  go_wp2_with fail
  refine K.out.mono ?_
  rintro e w1 ⟨rfl, hb⟩
  have HB := Lib.hid hb
  clear hb
  go_wp2_with fail
  go_ret2
  exact ⟨rfl, HB.out⟩
set_option maxRecDepth 100000 in
set_option maxHeartbeats 2000000 in
theorem store_nil {w : World} {a : Value} (t v : Int) (h : NoA w a) :
    Calls Tryd.prog 14 #[a, .int .i64 t, .int .u64 v] w fun e w' => e = .returned (.int .i64 1) ∧ Below w.heap.size w w' := by
  have K := Lib.hid (step_nil 2 t h)
  clear h
  go_enter Tryd.func14, Tryd.ntmps14
  go_wp2_with fail
  refine K.out.mono ?_
  rintro e w1 ⟨rfl, hb⟩
  have HB := Lib.hid hb
  clear hb
  go_wp2_with fail
  go_ret
  exact ⟨rfl, HB.out⟩
set_option maxRecDepth 100000 in
set_option maxHeartbeats 2000000 in
theorem events_nil {w : World} {a : Value}  (h : NoA w a) :
    Calls Tryd.prog 26 #[a] w fun e w' => e = .returned (.slice none 0 0) ∧ Below w.heap.size w w' := by
  have K := Lib.hid (since_nil 0 h)
  clear h
  go_enter Tryd.func26, Tryd.ntmps26
  go_wp2_with fail
  refine K.out.mono ?_
  rintro e w1 ⟨rfl, hb⟩
  have HB := Lib.hid hb
  clear hb
  go_wp2_with fail
  go_ret
  exact ⟨rfl, HB.out⟩
set_option maxRecDepth 100000 in
set_option maxHeartbeats 2000000 in
theorem find_nil {w : World} {a : Value} (s : ByteArray) (h : NoA w a) :
    Calls Tryd.prog 18 #[a, .string s] w (FindP w ([], 0, 0) 1) := by
  have KN := Lib.hid (h (w.alloc (.cells #[.string ⟨#[]⟩, .int .i64 0, .int .i64 0] 43)) ((Below.refl _ _).alloc (Nat.le_refl _) _))
  have hz1 : (w.alloc (.cells #[.string ⟨#[]⟩, .int .i64 0, .int .i64 0] 43)).heap[w.heap.size]? = some (.cells #[.string ⟨#[]⟩, .int .i64 0, .int .i64 0] 43) := heap_alloc_new _ _
  have f0 := free_in (i := 0) hz1
  have f1 := free_in (i := 1) hz1
  have f2 := free_in (i := 2) hz1
  have g0 := cell_in (i := 0) hz1 rfl
  have g1 := cell_in (i := 1) hz1 rfl
  have g2 := cell_in (i := 2) hz1 rfl
  clear h hz1
  go_enter Tryd.func18, Tryd.ntmps18
  go_wp2_with fail
  refine KN.out.mono ?_
  rintro e w1 ⟨rfl, rfl⟩
  go_wp2_with fail
  exact find_fin ([], 0, 0) 1 _ _ (cell_in (heap_alloc_new _ _) rfl) (cell_in (heap_alloc_new _ _) rfl) (cell_in (heap_alloc_new _ _) rfl) ((Below.refl _ _).alloc (Nat.le_refl _) _) rfl rfl rfl
end Go.Proofs.YtomjefplacgoeaaDoor
