/- FoldClosed: the law returns true: Close and Open are closed, and what they are said to be. No conditions. -/
import Derived.Test.YtfgfjapjpiilfaaArgSet
import Derived.Test.YtfgfjapjpiilfaaFoldM
import Derived.Lib.QuietBelow
import Derived.BigQuiet
import Derived.Deep.QuietTactic
import Derived.Deep.RegionHeld3
import Derived.Deep.CutRange
namespace Go.Proofs.Ytfgfjapjpiilfaa.foldClosed
open Go.ChangeShapes Go.WideShapes Go.ChangeAt Go.RowKit

abbrev SetC (W : World) (B : Nat) (s : CSet) : Prop :=
  W.cell? ⟨B, 0, none⟩ = some (.int .u64 (word s 0 : Int)) ∧ W.cell? ⟨B, 1, none⟩ = some (.int .u64 (word s 1 : Int)) ∧ W.cell? ⟨B, 2, none⟩ = some (.int .u64 (word s 2 : Int)) ∧ W.cell? ⟨B, 3, none⟩ = some (.int .u64 (word s 3 : Int))
theorem SetC.keep {W W' : World} {B : Nat} {s : CSet} (hl : B < W.heap.size) (hb : Below W.heap.size W W') (h : SetC W B s) : SetC W' B s := by
  obtain ⟨c0, c1, c2, c3⟩ := h
  exact ⟨(hb.cell (p := ⟨B, 0, none⟩) hl).trans c0, (hb.cell (p := ⟨B, 1, none⟩) hl).trans c1, (hb.cell (p := ⟨B, 2, none⟩) hl).trans c2, (hb.cell (p := ⟨B, 3, none⟩) hl).trans c3⟩
abbrev HeldF (w : World) (B : Nat) (s t : CSet) (W : World) : Prop := (SetC W B s ∧ SetC W (B + 1) t) ∧ B + 1 < W.heap.size ∧ Below w.heap.size w W
theorem HeldF.keep {w W W' : World} {B : Nat} {s t : CSet} (hb : Below W.heap.size W W') (h : HeldF w B s t W) : HeldF w B s t W' :=
  ⟨⟨SetC.keep (by have := h.2.1; omega) hb h.1.1, SetC.keep h.2.1 hb h.1.2⟩, Nat.lt_of_lt_of_le h.2.1 hb.size, next h.2.2 hb⟩
theorem HeldF.start (w : World) (s t : CSet) : HeldF w w.heap.size s t ((w.alloc (.cells (setC s) 36)).alloc (.cells (setC t) 36)) := by
  have h1 := ((SetAt.new w s).alloc (.cells (setC t) 36)).cells
  have h2 := SetAt.new (w.alloc (.cells (setC s) 36)) t
  rw [World.size_alloc] at h2
  exact ⟨⟨h1, h2.cells⟩, by simp, ((Below.refl _ _).alloc (Nat.le_refl _) _).alloc (by simp) _⟩

theorem later' {W W' : World} {n B : Nat} {o : Obj} (hb : Below n W W') (h : W.heap[B]? = some o) (hn : n = W.heap.size) : W'.heap[B]? = some o := by subst hn; exact (hb.block B (Array.getElem?_eq_some_iff.1 h).1).trans h
theorem newA (w : World) (o : Obj) : (w.alloc o).heap[w.heap.size]? = some o := heap_alloc_new w o
theorem newB (w : World) (o o2 : Obj) : ((w.alloc o).alloc o2).heap[w.heap.size]? = some o := (Below.heap_alloc _ _ _ (by simp)).trans (heap_alloc_new w o)
theorem newC (w : World) (o o2 : Obj) : ((w.alloc o).alloc o2).heap[w.heap.size + 1]? = some o2 := by have := heap_alloc_new (w.alloc o) o2; rwa [World.size_alloc] at this
theorem oldA {W : World} {B : Nat} {o o' : Obj} (h : W.heap[B]? = some o) : (W.alloc o').heap[B]? = some o := (Below.heap_alloc _ _ _ (Array.getElem?_eq_some_iff.1 h).1).trans h
/-- the cells of a new set -/
theorem zeros0 {W : World} {B : Nat} (h : W.heap[B]? = some (.cells #[.int .u64 0, .int .u64 0, .int .u64 0, .int .u64 0] 36 (0, 0))) :
    (W.cell? ⟨B, 0, none⟩ = some (.int .u64 0) ∧ W.cell? ⟨B, 1, none⟩ = some (.int .u64 0) ∧ W.cell? ⟨B, 2, none⟩ = some (.int .u64 0) ∧ W.cell? ⟨B, 3, none⟩ = some (.int .u64 0)) ∧
    (W.frozen? ⟨B, 0, none⟩ = false ∧ W.frozen? ⟨B, 1, none⟩ = false ∧ W.frozen? ⟨B, 2, none⟩ = false ∧ W.frozen? ⟨B, 3, none⟩ = false) ∧ B < W.heap.size := by
  refine ⟨by simp [World.cell?, h], by simp [World.frozen?, h], (Array.getElem?_eq_some_iff.1 h).1⟩
theorem zeros {W : World} {B : Nat} (h : W.heap[B]? = some (.cells #[.int .u64 0, .int .u64 0, .int .u64 0, .int .u64 0] 36 (0, 0))) :
    (W.cell? ⟨B, 0, none⟩ = some (.int .u64 0) ∧ W.cell? ⟨B, 1, none⟩ = some (.int .u64 0) ∧ W.cell? ⟨B, 2, none⟩ = some (.int .u64 0) ∧ W.cell? ⟨B, 3, none⟩ = some (.int .u64 0)) ∧
    (W.frozen? ⟨B, 0, none⟩ = false ∧ W.frozen? ⟨B, 1, none⟩ = false ∧ W.frozen? ⟨B, 2, none⟩ = false ∧ W.frozen? ⟨B, 3, none⟩ = false) ∧ B < W.heap.size ∧
    (∀ o, (W.alloc o).frozen? ⟨B, 0, none⟩ = false) ∧ (∀ o, (W.alloc o).frozen? ⟨B, 1, none⟩ = false) ∧ (∀ o, (W.alloc o).frozen? ⟨B, 2, none⟩ = false) ∧ (∀ o, (W.alloc o).frozen? ⟨B, 3, none⟩ = false) :=
  ⟨(zeros0 h).1, (zeros0 h).2.1, (zeros0 h).2.2, fun o => (zeros0 (oldA (o' := o) h)).2.1.1, fun o => (zeros0 (oldA (o' := o) h)).2.1.2.1, fun o => (zeros0 (oldA (o' := o) h)).2.1.2.2.1, fun o => (zeros0 (oldA (o' := o) h)).2.1.2.2.2⟩

theorem HeldF.alloc {w W : World} {B : Nat} {s t : CSet} (h : HeldF w B s t W) (o : Obj) : HeldF w B s t (W.alloc o) := h.keep ((Below.refl _ _).alloc (Nat.le_refl _) o)
theorem HeldF.keep' {w W W' : World} {B n : Nat} {s t : CSet} (hb : Below n W W') (h : HeldF w B s t W) (hn : n = W.heap.size) : HeldF w B s t W' := by subst hn; exact h.keep hb
theorem HeldF.any {w W W' : World} {B : Nat} {s t : CSet} (h : HeldF w B s t W) (hw : w.heap.size ≤ B) (h1 : W'.os = W.os) (h2 : W'.tape = W.tape) (h3 : W'.output = W.output) (hs : W.heap.size ≤ W'.heap.size) (hb : ∀ k, k < B + 2 → W'.heap[k]? = W.heap[k]?) : HeldF w B s t W' := by
  obtain ⟨⟨⟨a0, a1, a2, a3⟩, ⟨b0, b1, b2, b3⟩⟩, hl, hB⟩ := h
  have e0 := hb B (by omega)
  have e1 := hb (B + 1) (by omega)
  refine ⟨⟨⟨?_, ?_, ?_, ?_⟩, ⟨?_, ?_, ?_, ?_⟩⟩, by omega, ⟨h1.trans hB.os, h2.trans hB.tape, h3.trans hB.output, by have := hB.size; omega, fun k hk => (hb k (by omega)).trans (hB.block k hk)⟩⟩ <;> (unfold World.cell? at *; simp only [e0, e1]; assumption)
theorem HeldF.set4 {w W : World} {s t : CSet} {K : Nat} {x0 x1 x2 x3 : Value} (h : HeldF w w.heap.size s t W) (hK : w.heap.size + 1 < K) :
    HeldF w w.heap.size s t ((((W.setCell ⟨K, 0, none⟩ x0).setCell ⟨K, 1, none⟩ x1).setCell ⟨K, 2, none⟩ x2).setCell ⟨K, 3, none⟩ x3) :=
  h.any (Nat.le_refl _) rfl rfl rfl (by simp [World.size_setCell]) fun k hk => by
    have hne : k ≠ K := by omega
    rw [Below.heap_setCell _ _ _ _ hne, Below.heap_setCell _ _ _ _ hne, Below.heap_setCell _ _ _ _ hne, Below.heap_setCell _ _ _ _ hne]
theorem HeldF.swap {w W : World} {s t : CSet} {o o' : Obj} (h : HeldF w w.heap.size s t (W.alloc o)) (hK : w.heap.size + 1 < W.heap.size) : HeldF w w.heap.size s t (W.alloc o') :=
  h.any (Nat.le_refl _) rfl rfl rfl (by simp) fun k hk => by rw [Below.heap_alloc _ _ _ (by omega), Below.heap_alloc _ _ _ (by omega)]
theorem HeldF.swap2 {w W : World} {s t : CSet} {o o' o2 o2' : Obj} (h : HeldF w w.heap.size s t ((W.alloc o).alloc o2)) (hK : w.heap.size + 1 < W.heap.size) : HeldF w w.heap.size s t ((W.alloc o').alloc o2') :=
  h.any (Nat.le_refl _) rfl rfl rfl (by simp) fun k hk => by rw [Below.heap_alloc _ _ _ (by simp; omega), Below.heap_alloc _ _ _ (by omega), Below.heap_alloc _ _ _ (by simp; omega), Below.heap_alloc _ _ _ (by omega)]
theorem HeldF.setA {w W : World} {s t : CSet} {o o' : Obj} {K : Nat} {x0 x1 x2 x3 : Value} (h : HeldF w w.heap.size s t (W.alloc o)) (hK : w.heap.size + 1 < K) (hW : w.heap.size + 1 < W.heap.size) :
    HeldF w w.heap.size s t (((((W.setCell ⟨K, 0, none⟩ x0).setCell ⟨K, 1, none⟩ x1).setCell ⟨K, 2, none⟩ x2).setCell ⟨K, 3, none⟩ x3).alloc o') :=
  h.any (Nat.le_refl _) rfl rfl rfl (by simp [World.size_setCell]) fun k hk => by
    have hne : k ≠ K := by omega
    rw [Below.heap_alloc _ _ _ (by simp [World.size_setCell]; omega), Below.heap_setCell _ _ _ _ hne, Below.heap_setCell _ _ _ _ hne, Below.heap_setCell _ _ _ _ hne, Below.heap_setCell _ _ _ _ hne, Below.heap_alloc _ _ _ (by omega)]
theorem HeldF.drew {w W : World} {B : Nat} {s t : CSet} (h : HeldF w B s t W) : HeldF w B s t W.drew := h.keep ((Below.refl _ _).drew)

abbrev zObj : Obj := .cells #[.int .u64 0, .int .u64 0, .int .u64 0, .int .u64 0] 36 (0, 0)
abbrev sObj (s : CSet) : Obj := .cells #[.int .u64 (word s 0 : Int), .int .u64 (word s 1 : Int), .int .u64 (word s 2 : Int), .int .u64 (word s 3 : Int)] 36 (0, 0)
theorem setC_of {W : World} {B : Nat} {s : CSet} (h : W.heap[B]? = some (sObj s)) : SetC W B s := by
  refine ⟨?_, ?_, ?_, ?_⟩ <;> simp [World.cell?, h]
abbrev put4 (W : World) (K : Nat) (s : CSet) : World := (((W.setCell ⟨K, 0, none⟩ (.int .u64 (word s 0 : Int))).setCell ⟨K, 1, none⟩ (.int .u64 (word s 1 : Int))).setCell ⟨K, 2, none⟩ (.int .u64 (word s 2 : Int))).setCell ⟨K, 3, none⟩ (.int .u64 (word s 3 : Int))
theorem put_at {W : World} {K : Nat} {s : CSet} (h : W.heap[K]? = some zObj) : (put4 W K s).heap[K]? = some (sObj s) := by
  unfold put4
  rw [heap_setCell_at _ (heap_setCell_at _ (heap_setCell_at _ (heap_setCell_at _ h)))]
  simp
theorem put_far {W : World} {K B : Nat} {s : CSet} {o : Obj} (hne : B ≠ K) (h : W.heap[B]? = some o) : (put4 W K s).heap[B]? = some o := by
  unfold put4
  rw [Below.heap_setCell _ _ _ _ hne, Below.heap_setCell _ _ _ _ hne, Below.heap_setCell _ _ _ _ hne, Below.heap_setCell _ _ _ _ hne]; exact h
theorem two_first {W : World} {K1 K2 : Nat} {s1 s2 : CSet} (h : W.heap[K1]? = some zObj) (hne : K1 ≠ K2) : (put4 (put4 W K1 s1) K2 s2).heap[K1]? = some (sObj s1) := put_far hne (put_at h)
theorem two_second {W : World} {K1 K2 : Nat} {s1 s2 : CSet} (h : W.heap[K2]? = some zObj) (hne : K1 ≠ K2) : (put4 (put4 W K1 s1) K2 s2).heap[K2]? = some (sObj s2) := put_at (put_far (Ne.symm hne) h)
theorem put_new {W : World} {K : Nat} {s : CSet} (o : Obj) : ((put4 W K s).alloc o).heap[W.heap.size]? = some o := by
  have := heap_alloc_new (put4 W K s) o
  simpa only [put4, World.size_setCell] using this

/-- the memory behind the first statements -/
structure HG (w : World) (B5 B6 : Nat) (s t C O : CSet) (W : World) : Prop where
  cs : SetC W w.heap.size s
  ct : SetC W (w.heap.size + 1) t
  c5 : SetC W B5 C
  c6 : SetC W B6 O
  ls : w.heap.size + 1 < W.heap.size
  l5 : B5 < W.heap.size
  l6 : B6 < W.heap.size
  bel : Below w.heap.size w W
theorem HG.cells {w W : World} {B5 B6 : Nat} {s t C O : CSet} (h : HG w B5 B6 s t C O W) : SetC W w.heap.size s ∧ SetC W (w.heap.size + 1) t ∧ SetC W B5 C ∧ SetC W B6 O := ⟨h.cs, h.ct, h.c5, h.c6⟩
theorem HG.keep {w W W' : World} {B5 B6 n : Nat} {s t C O : CSet} (h : HG w B5 B6 s t C O W) (hb : Below n W W') (hn : n = W.heap.size) : HG w B5 B6 s t C O W' := by
  subst hn
  have hz := hb.size
  exact ⟨SetC.keep (by have := h.ls; omega) hb h.cs, SetC.keep h.ls hb h.ct, SetC.keep h.l5 hb h.c5, SetC.keep h.l6 hb h.c6, by have := h.ls; omega, by have := h.l5; omega, by have := h.l6; omega, next h.bel hb⟩

set_option maxRecDepth 100000 in
set_option maxHeartbeats 20000000 in
theorem walkS (s t : CSet) (w : World) :
    Calls Try.prog 8 #[setV s, setV t] w fun e w' => e = .returned (.bool true) ∧ Below w.heap.size w w' := by
  have HS := Lib.hid (HeldF.start w s t)
  have K1 := Lib.hid (fun (w : World) => close_p s w)
  have K2 := Lib.hid (fun (w : World) => open_p s w)
  have k3 := fun (w : World) => close_p (s ||| turnS s) w
  have k4 := fun (w : World) => open_p (s &&& turnS s) w
  have k5 := fun (w : World) => closed_p (s ||| turnS s) w
  have k6 := fun (w : World) => closed_p (s &&& turnS s) w
  have k7 := fun (w : World) => sub_r s (s ||| turnS s) w
  have k8 := fun (w : World) => sub_r (s &&& turnS s) s w
  have K9 := Lib.hid (fun (w : World) => not_r s w)
  have k10 := fun (w : World) => open_p (~~~s) w
  have K11 := Lib.hid (fun (w : World) => not_r (s ||| turnS s) w)
  have K12 := Lib.hid (fun (w : World) => union_r s t w)
  have K13 := Lib.hid (fun (w : World) => close_p (s ||| t) w)
  have k14 := fun (w : World) => sub_r (s ||| turnS s) ((s ||| t) ||| turnS (s ||| t)) w
  have K15 := Lib.hid (fun (w : World) => open_p (s ||| t) w)
  have k16 := fun (w : World) => sub_r (s &&& turnS s) ((s ||| t) &&& turnS (s ||| t)) w
  have K17 := Lib.hid (fun (w : World) => closed_p t w)
  have K18 := Lib.hid (fun (w : World) => sub_r s t w)
  have K19 := Lib.hid (fun (w : World) => sub_r (s ||| turnS s) t w)
  have K20 := Lib.hid (fun (w : World) => sub_r t s w)
  have K21 := Lib.hid (fun (w : World) => sub_r t (s &&& turnS s) w)
  have KL := Lib.hid (fun (w : World) => list_r (s ||| turnS s) w)
  rw [cl1] at k3
  rw [op1] at k4
  rw [decide_eq_true (cl3 s)] at k5
  rw [decide_eq_true (op3 s)] at k6
  rw [decide_eq_true (sub5 s)] at k7
  rw [decide_eq_true (sub6 s)] at k8
  rw [not7] at k10
  rw [decide_eq_true (sub8 s t)] at k14
  rw [decide_eq_true (sub9 s t)] at k16
  have K3 := Lib.hid k3
  have K4 := Lib.hid k4
  have K5 := Lib.hid k5
  have K6 := Lib.hid k6
  have K7 := Lib.hid k7
  have K8 := Lib.hid k8
  have K10 := Lib.hid k10
  have K14 := Lib.hid k14
  have K16 := Lib.hid k16
  clear k3 k4 k5 k6 k7 k8 k10 k14 k16
  have hf : ∀ (k : Nat) (hk : k < (listS (s ||| turnS s)).length), bothS ((listS (s ||| turnS s))[k]).toNat &&& ~~~(s ||| turnS s) = 0#256 := fun k hk => sub12 (cl3 s) (UInt8.toNat_lt _) (listS_has (List.getElem_mem hk))
  have HFK := Lib.hid (fun (k : Nat) (hk : k < (listS (s ||| turnS s)).length) (w : World) => sub_r (bothS ((listS (s ||| turnS s))[k]).toNat) (s ||| turnS s) w)
  have HF0 := Lib.hid hf
  have hb1 : decide (turnS t = t) = true → decide (s &&& ~~~t = 0#256) = true → decide ((s ||| turnS s) &&& ~~~t = 0#256) = true := fun h1 h2 => decide_eq_true (sub10 (of_decide_eq_true h1) (of_decide_eq_true h2))
  have hb2 : decide (turnS t = t) = true → decide (t &&& ~~~s = 0#256) = true → decide (t &&& ~~~(s &&& turnS s) = 0#256) = true := fun h1 h2 => decide_eq_true (sub11 (of_decide_eq_true h1) (of_decide_eq_true h2))
  have HI := Lib.hid (show listS (s ||| turnS s) = listS (s ||| turnS s) from rfl)
  have hlen : (listS (s ||| turnS s)).length ≤ 256 := by unfold listS listTo; rw [List.length_map]; exact Nat.le_trans (List.length_filter_le _ _) (by simp)
  generalize decide (turnS t = t) = z1 at *
  generalize decide (s &&& ~~~t = 0#256) = z2 at *
  generalize decide ((s ||| turnS s) &&& ~~~t = 0#256) = z3 at *
  generalize decide (t &&& ~~~s = 0#256) = z4 at *
  generalize decide (t &&& ~~~(s &&& turnS s) = 0#256) = z5 at *
  have HB1 := Lib.hid hb1
  have HB2 := Lib.hid hb2
  clear hb1 hb2 hf HI
  have QN := Lib.hid (fun w => eq_set w (~~~(s ||| turnS s)) (~~~(s ||| turnS s)))
  have QC := Lib.hid (fun w => eq_set w (s ||| turnS s) (s ||| turnS s))
  have QO := Lib.hid (fun w => eq_set w (s &&& turnS s) (s &&& turnS s))
  generalize listS (s ||| turnS s) = L at *
  generalize (s ||| t) ||| turnS (s ||| t) = CM at *
  generalize (s ||| t) &&& turnS (s ||| t) = OM at *
  generalize s ||| t = M at *
  generalize ~~~(s ||| turnS s) = NC at *
  generalize ~~~s = NS at *
  generalize s ||| turnS s = C at *
  generalize s &&& turnS s = O at *
  obtain ⟨⟨⟨a0, a1, a2, a3⟩, ⟨b0, b1, b2, b3⟩⟩, n1, _⟩ := HS.out
  have n0 : w.heap.size < w.heap.size + 1 + 1 := by omega
  unfold setV setC at *
  go_enter Try.func8, Try.ntmps8
  go_wp2_with fail
  go_cut [5, 6] from 10 to 13 (fun v5 v6 wx => ∃ B5 B6 : Nat, v5 = .pointer (some ⟨B5, 0, none⟩) ∧ v6 = .pointer (some ⟨B6, 0, none⟩) ∧ HeldF w w.heap.size s t wx ∧ (B5 < wx.heap.size ∧ B6 < wx.heap.size) ∧ SetC wx B5 C ∧ SetC wx B6 O)
  case first =>
    go_region_held3 (fun w' => HeldF w w.heap.size s t w') (first
        | with_reducible exact HeldF.set4 (by assumption) (by omega)
        | with_reducible exact HeldF.setA (by assumption) (by omega) (by omega)
        | with_reducible exact HeldF.keep (by assumption) (by assumption)
        | with_reducible exact HeldF.keep ((Below.refl _ _).alloc (Nat.le_refl _) _) (by assumption)
        | with_reducible exact HeldF.swap (by assumption) (by omega)
        | with_reducible exact HeldF.swap (by assumption) (by simp only [World.size_setCell]; omega)
        | with_reducible exact HeldF.swap2 (by assumption) (by omega)
        | exact HeldF.keep ((Below.refl _ _).drew) HS.out) (first
        | (go_at_call 20; refine (K1.out _).mono ?_; rintro e v1 ⟨rfl, hb⟩
           have sz1 : w.heap.size + 1 < v1.heap.size := Nat.lt_of_lt_of_le (show w.heap.size + 1 < _ from by simp [World.drew]) hb.size
           first
             | (have z1 := later' hb (newB _ _ _) rfl; have z2 := later' hb (newC _ _ _) rfl; (try simp only [World.size_alloc] at z1); (try simp only [World.size_alloc] at z2); obtain ⟨⟨y0, y1, y2, y3⟩, ⟨x0, x1, x2, x3⟩, l1, m0, m1, m2, m3⟩ := zeros z1; obtain ⟨⟨u0, u1, u2, u3⟩, ⟨t0, t1, t2, t3⟩, l2, k0, k1, k2, k3⟩ := zeros z2)
             | (have z1 := later' hb (newA _ _) rfl; (try simp only [World.size_alloc] at z1); obtain ⟨⟨y0, y1, y2, y3⟩, ⟨x0, x1, x2, x3⟩, l1, m0, m1, m2, m3⟩ := zeros z1)
             | skip)
        | (go_at_call 25; refine (K2.out _).mono ?_; rintro e v2 ⟨rfl, hb2⟩
           have sz2 : w.heap.size + 1 < v2.heap.size := by have := hb2.size; (try simp at this); omega
           try (have z1' := later' hb2 (by first | exact z1 | exact oldA z1 | exact oldA (oldA z1)) rfl; obtain ⟨⟨y0', y1', y2', y3'⟩, ⟨x0', x1', x2', x3'⟩, l1', m0', m1', m2', m3'⟩ := zeros z1'; clear y0 y1 y2 y3 x0 x1 x2 x3 m0 m1 m2 m3)
           try (have z2' := later' hb2 (by first | exact z2 | exact oldA z2 | exact oldA (oldA z2)) rfl; obtain ⟨⟨u0', u1', u2', u3'⟩, ⟨t0', t1', t2', t3'⟩, l2', k0', k1', k2', k3'⟩ := zeros z2'; clear u0 u1 u2 u3 t0 t1 t2 t3 k0 k1 k2 k3)
           first
             | (have z3 := later' hb2 (newB _ _ _) rfl; have z4 := later' hb2 (newC _ _ _) rfl; (try simp only [World.size_alloc] at z3); (try simp only [World.size_alloc] at z4); obtain ⟨⟨p0, p1, p2, p3⟩, ⟨q0, q1, q2, q3⟩, l3, j0, j1, j2, j3⟩ := zeros z3; obtain ⟨⟨r0, r1, r2, r3⟩, ⟨s0, s1, s2, s3⟩, l4, i0, i1, i2, i3⟩ := zeros z4)
             | (have z3 := later' hb2 (newA _ _) rfl; (try simp only [World.size_alloc] at z3); obtain ⟨⟨p0, p1, p2, p3⟩, ⟨q0, q1, q2, q3⟩, l3, j0, j1, j2, j3⟩ := zeros z3)
             | skip))
    all_goals
      go_wp2_with fail
      go_meet
      refine ⟨_, _, rfl, rfl, by with_reducible assumption, ⟨?_, ?_⟩, ?_, ?_⟩
      · first | omega | (simp only [World.size_setCell, World.size_alloc]; omega)
      · first | omega | (simp only [World.size_setCell, World.size_alloc]; omega)
      · refine setC_of ?_
        first
          | with_reducible exact newA _ _
          | with_reducible exact newB _ _ _
          | with_reducible exact newC _ _ _
          | with_reducible exact put_new _
          | (with_reducible refine oldA (put_at ?_); with_reducible assumption)
          | (with_reducible refine two_first ?_ ?_; (with_reducible assumption); omega)
      · refine setC_of ?_
        first
          | with_reducible exact newA _ _
          | with_reducible exact newB _ _ _
          | with_reducible exact newC _ _ _
          | with_reducible exact put_new _
          | (with_reducible refine oldA (put_at ?_); with_reducible assumption)
          | (with_reducible refine two_second ?_ ?_; (with_reducible assumption); omega)
  case rest =>
    clear a0 a1 a2 a3 b0 b1 b2 b3 n0 n1
    obtain ⟨B5, B6, rfl, rfl, H1, ⟨l5, l6⟩, S5, S6⟩ := hcut
    have HX := Lib.hid (⟨H1.1.1, H1.1.2, S5, S6, H1.2.1, l5, l6, H1.2.2⟩ : HG w B5 B6 s t C O wc)
    clear H1 l5 l6 S5 S6
    obtain ⟨⟨a0, a1, a2, a3⟩, ⟨b0, b1, b2, b3⟩, ⟨c0, c1, c2, c3⟩, ⟨o0, o1, o2, o3⟩⟩ := HX.out.cells
    go_wp2_with fail
    refine (K12.out _).mono ?_
    rintro e u3 ⟨rfl, hb⟩
    replace HX := Lib.hid (HX.out.keep hb rfl)
    clear a0 a1 a2 a3 b0 b1 b2 b3 c0 c1 c2 c3 o0 o1 o2 o3 hb
    go_wp2_with fail
    have SM := setC_of (s := M) (newA u3 (sObj M))
    replace HX := Lib.hid (HX.out.keep ((Below.refl _ _).alloc (Nat.le_refl _) (sObj M)) rfl)
    obtain ⟨⟨a0, a1, a2, a3⟩, ⟨b0, b1, b2, b3⟩, ⟨c0, c1, c2, c3⟩, ⟨o0, o1, o2, o3⟩⟩ := HX.out.cells
    obtain ⟨m0, m1, m2, m3⟩ := SM
    have q1 := QC.out
    have q2 := QO.out
    have q3 := QN.out
    have e1 : decide (C = C) = true := decide_eq_true rfl
    have e2 : decide (O = O) = true := decide_eq_true rfl
    have e3 : decide (NC = NC) = true := decide_eq_true rfl
    have ga0 := fun d os => cell_regrown a0 d os
    have ga1 := fun d os => cell_regrown a1 d os
    have ga2 := fun d os => cell_regrown a2 d os
    have ga3 := fun d os => cell_regrown a3 d os
    have gb0 := fun d os => cell_regrown b0 d os
    have gb1 := fun d os => cell_regrown b1 d os
    have gb2 := fun d os => cell_regrown b2 d os
    have gb3 := fun d os => cell_regrown b3 d os
    have gc0 := fun d os => cell_regrown c0 d os
    have gc1 := fun d os => cell_regrown c1 d os
    have gc2 := fun d os => cell_regrown c2 d os
    have gc3 := fun d os => cell_regrown c3 d os
    have go0 := fun d os => cell_regrown o0 d os
    have go1 := fun d os => cell_regrown o1 d os
    have go2 := fun d os => cell_regrown o2 d os
    have go3 := fun d os => cell_regrown o3 d os
    have gm0 := fun d os => cell_regrown m0 d os
    have gm1 := fun d os => cell_regrown m1 d os
    have gm2 := fun d os => cell_regrown m2 d os
    have gm3 := fun d os => cell_regrown m3 d os
    refine wp_region_quiet_below (by kernel_rfl) (by kernel_rfl) ?_
    repeat (go_big_quiet_step ((first
      | (go_at_call 20; first | with_reducible exact Calls.regrown_of (K3.out _) | with_reducible exact Calls.regrown_of (K13.out _))
      | (go_at_call 25; first | with_reducible exact Calls.regrown_of (K4.out _) | with_reducible exact Calls.regrown_of (K10.out _) | with_reducible exact Calls.regrown_of (K15.out _))
      | (go_at_call 22; first | with_reducible exact Calls.regrown_of (K5.out _) | with_reducible exact Calls.regrown_of (K6.out _))
      | (go_at_call 33; first | with_reducible exact Calls.regrown_of (K7.out _) | with_reducible exact Calls.regrown_of (K8.out _) | with_reducible exact Calls.regrown_of (K14.out _) | with_reducible exact Calls.regrown_of (K16.out _))
      | (go_at_call 34; first | with_reducible exact Calls.regrown_of (K9.out _) | with_reducible exact Calls.regrown_of (K11.out _)))))
    refine wpQuiet_nil ?_
    intro _ hw'
    obtain ⟨⟨dq, osq⟩, hw''⟩ := hw'
    subst hw''
    clear ga0 ga1 ga2 ga3 gb0 gb1 gb2 gb3 gc0 gc1 gc2 gc3 go0 go1 go2 go3 gm0 gm1 gm2 gm3 q1 q2 q3 e1 e2 e3
    replace HX := Lib.hid (HX.out.keep (below_regrown _ dq osq) rfl)
    clear a0 a1 a2 a3 b0 b1 b2 b3 c0 c1 c2 c3 o0 o1 o2 o3 m0 m1 m2 m3
    go_upto_region 5 with fail
    go_cut [94] from 71 to 93 (fun v wx => v = .bool false ∧ HG w B5 B6 s t C O wx)
    case first =>
      obtain ⟨⟨a0, a1, a2, a3⟩, ⟨b0, b1, b2, b3⟩, ⟨c0, c1, c2, c3⟩, ⟨o0, o1, o2, o3⟩⟩ := HX.out.cells
      go_wp2_with fail
      cases z1
      · refine (K17.out _).mono ?_
        rintro e u ⟨rfl, hb⟩
        replace HX := Lib.hid (HX.out.keep hb rfl)
        clear a0 a1 a2 a3 b0 b1 b2 b3 c0 c1 c2 c3 o0 o1 o2 o3 hb
        obtain ⟨⟨a0, a1, a2, a3⟩, ⟨b0, b1, b2, b3⟩, ⟨c0, c1, c2, c3⟩, ⟨o0, o1, o2, o3⟩⟩ := HX.out.cells
        go_wp2_with fail
        go_meet
        exact ⟨rfl, HX.out⟩
      · refine (K17.out _).mono ?_
        rintro e u ⟨rfl, hb⟩
        replace HX := Lib.hid (HX.out.keep hb rfl)
        clear a0 a1 a2 a3 b0 b1 b2 b3 c0 c1 c2 c3 o0 o1 o2 o3 hb
        obtain ⟨⟨a0, a1, a2, a3⟩, ⟨b0, b1, b2, b3⟩, ⟨c0, c1, c2, c3⟩, ⟨o0, o1, o2, o3⟩⟩ := HX.out.cells
        go_wp2_with fail
        cases z2
        · refine (K18.out _).mono ?_
          rintro e u ⟨rfl, hb⟩
          replace HX := Lib.hid (HX.out.keep hb rfl)
          clear a0 a1 a2 a3 b0 b1 b2 b3 c0 c1 c2 c3 o0 o1 o2 o3 hb
          obtain ⟨⟨a0, a1, a2, a3⟩, ⟨b0, b1, b2, b3⟩, ⟨c0, c1, c2, c3⟩, ⟨o0, o1, o2, o3⟩⟩ := HX.out.cells
          go_wp2_with fail
          cases z4
          · refine (K20.out _).mono ?_
            rintro e u ⟨rfl, hb⟩
            replace HX := Lib.hid (HX.out.keep hb rfl)
            clear a0 a1 a2 a3 b0 b1 b2 b3 c0 c1 c2 c3 o0 o1 o2 o3 hb
            obtain ⟨⟨a0, a1, a2, a3⟩, ⟨b0, b1, b2, b3⟩, ⟨c0, c1, c2, c3⟩, ⟨o0, o1, o2, o3⟩⟩ := HX.out.cells
            go_wp2_with fail
            go_meet
            exact ⟨rfl, HX.out⟩
          · have hz5 : z5 = true := by simpa using HB2.out
            subst hz5
            refine (K20.out _).mono ?_
            rintro e u ⟨rfl, hb⟩
            replace HX := Lib.hid (HX.out.keep hb rfl)
            clear a0 a1 a2 a3 b0 b1 b2 b3 c0 c1 c2 c3 o0 o1 o2 o3 hb
            obtain ⟨⟨a0, a1, a2, a3⟩, ⟨b0, b1, b2, b3⟩, ⟨c0, c1, c2, c3⟩, ⟨o0, o1, o2, o3⟩⟩ := HX.out.cells
            go_wp2_with fail
            refine (K21.out _).mono ?_
            rintro e u ⟨rfl, hb⟩
            replace HX := Lib.hid (HX.out.keep hb rfl)
            clear a0 a1 a2 a3 b0 b1 b2 b3 c0 c1 c2 c3 o0 o1 o2 o3 hb
            obtain ⟨⟨a0, a1, a2, a3⟩, ⟨b0, b1, b2, b3⟩, ⟨c0, c1, c2, c3⟩, ⟨o0, o1, o2, o3⟩⟩ := HX.out.cells
            go_wp2_with fail
            go_meet
            exact ⟨rfl, HX.out⟩
        · have hz3 : z3 = true := by simpa using HB1.out
          subst hz3
          refine (K18.out _).mono ?_
          rintro e u ⟨rfl, hb⟩
          replace HX := Lib.hid (HX.out.keep hb rfl)
          clear a0 a1 a2 a3 b0 b1 b2 b3 c0 c1 c2 c3 o0 o1 o2 o3 hb
          obtain ⟨⟨a0, a1, a2, a3⟩, ⟨b0, b1, b2, b3⟩, ⟨c0, c1, c2, c3⟩, ⟨o0, o1, o2, o3⟩⟩ := HX.out.cells
          go_wp2_with fail
          refine (K19.out _).mono ?_
          rintro e u ⟨rfl, hb⟩
          replace HX := Lib.hid (HX.out.keep hb rfl)
          clear a0 a1 a2 a3 b0 b1 b2 b3 c0 c1 c2 c3 o0 o1 o2 o3 hb
          obtain ⟨⟨a0, a1, a2, a3⟩, ⟨b0, b1, b2, b3⟩, ⟨c0, c1, c2, c3⟩, ⟨o0, o1, o2, o3⟩⟩ := HX.out.cells
          go_wp2_with fail
          cases z4
          · refine (K20.out _).mono ?_
            rintro e u ⟨rfl, hb⟩
            replace HX := Lib.hid (HX.out.keep hb rfl)
            clear a0 a1 a2 a3 b0 b1 b2 b3 c0 c1 c2 c3 o0 o1 o2 o3 hb
            obtain ⟨⟨a0, a1, a2, a3⟩, ⟨b0, b1, b2, b3⟩, ⟨c0, c1, c2, c3⟩, ⟨o0, o1, o2, o3⟩⟩ := HX.out.cells
            go_wp2_with fail
            go_meet
            exact ⟨rfl, HX.out⟩
          · have hz5 : z5 = true := by simpa using HB2.out
            subst hz5
            refine (K20.out _).mono ?_
            rintro e u ⟨rfl, hb⟩
            replace HX := Lib.hid (HX.out.keep hb rfl)
            clear a0 a1 a2 a3 b0 b1 b2 b3 c0 c1 c2 c3 o0 o1 o2 o3 hb
            obtain ⟨⟨a0, a1, a2, a3⟩, ⟨b0, b1, b2, b3⟩, ⟨c0, c1, c2, c3⟩, ⟨o0, o1, o2, o3⟩⟩ := HX.out.cells
            go_wp2_with fail
            refine (K21.out _).mono ?_
            rintro e u ⟨rfl, hb⟩
            replace HX := Lib.hid (HX.out.keep hb rfl)
            clear a0 a1 a2 a3 b0 b1 b2 b3 c0 c1 c2 c3 o0 o1 o2 o3 hb
            obtain ⟨⟨a0, a1, a2, a3⟩, ⟨b0, b1, b2, b3⟩, ⟨c0, c1, c2, c3⟩, ⟨o0, o1, o2, o3⟩⟩ := HX.out.cells
            go_wp2_with fail
            go_meet
            exact ⟨rfl, HX.out⟩
    case rest =>
      obtain ⟨rfl, HX⟩ := hcut
      have HX := Lib.hid HX
      obtain ⟨⟨a0, a1, a2, a3⟩, ⟨b0, b1, b2, b3⟩, ⟨c0, c1, c2, c3⟩, ⟨o0, o1, o2, o3⟩⟩ := HX.out.cells
      go_wp2_with fail
      refine (KL.out _).mono ?_
      rintro e u9 ⟨v, rfl, hr, hb⟩
      replace HX := Lib.hid (HX.out.keep hb rfl)
      have HR := Lib.hid (Row.of_owns hr)
      clear a0 a1 a2 a3 b0 b1 b2 b3 c0 c1 c2 c3 o0 o1 o2 o3 hb hr
      obtain ⟨av, capv, hv⟩ : ∃ p cap, v = .slice p L.length cap := by obtain ⟨_, _, p, cap, e, _⟩ := HR.out; exact ⟨p, cap, e⟩
      subst hv
      go_wp2_with fail
      go_loopw [9] (fun iv wr => ∃ k : Nat, k ≤ L.length ∧ iv = .int .i64 (k : Nat) ∧ Below u9.heap.size u9 wr) (fun iv _ => L.length - (intOf iv).toNat)
      case atStart => exact ⟨0, by omega, rfl, Below.refl _ _⟩
      case round =>
        obtain ⟨k, hk, rfl, hB⟩ := hrel
        have HBk := Lib.hid hB
        have i0 : (0 : Int) ≤ (k : Int) := by omega
        by_cases hlt : k < L.length
        · obtain ⟨g, o, cap, hv, hg, hck⟩ := Row.byteAt HR.out hlt
          cases hv
          have ck := (hB.cell (p := ⟨g, o + k, none⟩) hg).trans hck
          have i1 : (k : Int) < (L.length : Int) := by omega
          have KB := Lib.hid (fun (w : World) => both_p L[k].toNat (UInt8.toNat_lt _) w)
          have ks := HFK.out k hlt
          rw [decide_eq_true (HF0.out k hlt)] at ks
          have KS := Lib.hid ks
          clear hck ks hB
          generalize bothS L[k].toNat = Bn at *
          generalize L[k].toNat = bn at *
          unfold setV setC at KB
          obtain ⟨⟨a0, a1, a2, a3⟩, ⟨b0, b1, b2, b3⟩, ⟨c0, c1, c2, c3⟩, ⟨o0, o1, o2, o3⟩⟩ := (HX.out.keep HBk.out rfl).cells
          have gk := fun d os => cell_regrown ck d os
          have gc0 := fun d os => cell_regrown c0 d os
          have gc1 := fun d os => cell_regrown c1 d os
          have gc2 := fun d os => cell_regrown c2 d os
          have gc3 := fun d os => cell_regrown c3 d os
          clear a0 a1 a2 a3 b0 b1 b2 b3 o0 o1 o2 o3
          go_wp2_with fail
          refine wp_region_quiet_below (by kernel_rfl) (by kernel_rfl) ?_
          repeat (go_big_quiet_step ((first
            | (go_at_call 30; exact Calls.regrown_of (KB.out _))
            | (go_at_call 33; exact Calls.regrown_of (KS.out _)))))
          refine wpQuiet_nil ?_
          intro _ hw'
          obtain ⟨⟨dq, osq⟩, hw''⟩ := hw'
          subst hw''
          clear gk gc0 gc1 gc2 gc3 c0 c1 c2 c3 ck
          go_wp2_with fail
          exact ⟨⟨k + 1, by omega, by go_num, next HBk.out (below_regrown _ _ _)⟩, by simp [intOf]; omega⟩
        · have l9 : ¬ (k : Int) < (L.length : Int) := by omega
          clear hlt hB
          go_wp2_with fail
          refine (shown_p _).mono ?_
          rintro e u10 ⟨rfl, hb⟩
          replace HX := Lib.hid ((HX.out.keep HBk.out rfl).keep hb rfl)
          clear hb
          go_wp2_with fail
          go_ret
          exact ⟨rfl, HX.out.bel⟩

theorem walk (cs ds : Array Value) (w : World) (hz : cs.size = [34, 34, 34, 34].length)
    (hc : ∀ (i : Nat) (u : TypeId) (x : Value), [34, 34, 34, 34][i]? = some u → cs[i]? = some x → Cell.okWide Try.prog w .any w.heap.size u x)
    (hz2 : ds.size = [34, 34, 34, 34].length)
    (hd : ∀ (i : Nat) (u : TypeId) (x : Value), [34, 34, 34, 34][i]? = some u → ds[i]? = some x → Cell.okWide Try.prog w .any w.heap.size u x) :
    Calls Try.prog 8 #[.agg cs, .agg ds] w fun e w' => e = .returned (.bool true) ∧ Below w.heap.size w w' := by
  obtain ⟨s, hs⟩ := set_of hz hc
  obtain ⟨t, ht⟩ := set_of hz2 hd
  rw [hs, ht]
  exact walkS s t w

theorem own : ownKnob Try.prog.godebug = none := by kernel_rfl
theorem laidOut : laidOutB Try.prog = true := by kernel_rfl

set_option maxRecDepth 100000 in
theorem lifted (os : Os) (started : os.Started) (H : Type) (enc : TypeId × Value → H) :
    ReturnsInHanded {} Try.checked os 8 .any (Rows.foldClosedSpec.pre6 enc Try.prog Try.f8 Rows.foldClosedRow.domain false) (Rows.foldClosedSpec.post enc Try.prog Try.f8 false true false false) := by
  refine returnsInHanded_of_change (C := Try.checked) own started (by kernel_rfl) Try.func8
    (ChangeSpec.witness6 (enc := enc) (C := Try.checked) false ⟨#[], #[.agg #[.int .u64 0, .int .u64 0, .int .u64 0, .int .u64 0], .agg #[.int .u64 0, .int .u64 0, .int .u64 0, .int .u64 0]], []⟩ 8 (by kernel_rfl) (by kernel_rfl) (by kernel_rfl) (by kernel_rfl)) ?_
  intro W base args ds gs before hval0 hW hcnd _
  have hval : ∀ (j : Nat) t v, Try.f8.params[j]? = some t → args[j]? = some v → Value.okWide Try.prog W .any base t v := hval0
  have hW' := hW
  obtain ⟨p, q, hA0, hV, rfl, hfz, hnd⟩ := hW
  have hA : DataW.TrodAll enc Try.prog W 0 (fun _ => true) true Try.f8.params.toList args.toList ds p := hA0
  rw [Try.params8] at hA hval
  obtain ⟨v0, vs0, d0, ds0, p0, q0, hargs, rfl, rfl, k0, r0⟩ := trodAll_cons hA
  obtain ⟨v1, vs1, d1, ds1, p1, q1, rfl, rfl, rfl, k1, r1⟩ := trodAll_cons r0
  obtain ⟨rfl, rfl, rfl⟩ := trodAll_nil r1
  obtain rfl : args = #[v0, v1] := by cases args; simp_all
  obtain ⟨rfl, rfl⟩ := trodVars_none hV
  have lt0 : ∀ x ∈ p0, x.block < W.heap.size := by obtain ⟨m, hm⟩ := k0; exact DataW.trod_lt m _ _ _ hm
  have lt1 : ∀ x ∈ p1, x.block < W.heap.size := by obtain ⟨m, hm⟩ := k1; exact DataW.trod_lt m _ _ _ hm
  obtain ⟨c0, rfl, z0, g0⟩ := arg_agg (ts := [34, 34, 34, 34]) (by kernel_rfl) (by kernel_rfl) (by kernel_rfl) (hval 0 36 v0 rfl rfl)
  obtain ⟨c1, rfl, z1, g1⟩ := arg_agg (ts := [34, 34, 34, 34]) (by kernel_rfl) (by kernel_rfl) (by kernel_rfl) (hval 1 36 v1 rfl rfl)
  clear hA0 hval0
  refine (walk c0 c1 W z0 g0 z1 g1).mono fun e W' ⟨he, bel⟩ => ?_
  subst he
  exact ⟨_, rfl, _, _, _, [], _, [], hW', trodAll_mk1 (shut_bool Try.underlying4 _), (trodAll_cons_mk (Below.trod laidOut (by kernel_rfl) (of_decide_eq_true (by kernel_rfl)) k0 bel lt0) (trodAll_cons_mk (Below.trod laidOut (by kernel_rfl) (of_decide_eq_true (by kernel_rfl)) k1 bel lt1) trodAll_mk0)), rfl, bel.frame _, fun h => by cases h⟩

theorem over : Rows.foldClosedRow.holds Try.pinned (OpenSpec.ofChange Rows.foldClosedSpec) :=
  OpenClaim.holds_of_wide 8 Try.f8 rfl rfl rfl rfl rfl rfl rfl ⟨rfl, rfl, rfl, rfl, rfl⟩ rfl rfl rfl rfl rfl (by kernel_rfl) Try.func8 (by kernel_rfl)
    (of_decide_eq_true (by kernel_rfl)) (by unfold Func.isWrapper; first | (rw [if_pos (by decide +kernel)]; kernel_rfl) | (rw [if_neg (by decide +kernel)]; exact ⟨rfl, rfl⟩))
    (fun os started H enc _ => lifted os started H enc)

theorem proved : Rows.FoldClosedSaid := over
#print axioms proved
end Go.Proofs.Ytfgfjapjpiilfaa.foldClosed
