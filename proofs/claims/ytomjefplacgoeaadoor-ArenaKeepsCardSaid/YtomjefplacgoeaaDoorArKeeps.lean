/- ArenaKeeps: a load returns what was stored last in this cell, or 0; a store changes no other cell. -/
import Derived.Test.YtomjefplacgoeaaDoorArArg
import Derived.Test.YtomjefplacgoeaaDoorDLaid
import Derived.Test.YtomjefplacgoeaaDoorTie
import Derived.Test.YtomjefplacgoeaaDoorCards
import Derived.SevenTiedAt
namespace Go.Proofs.YtomjefplacgoeaaDoor.arenaKeeps
open Go.ChangeShapes Go.WideShapes Go.ChangeAt Go.RowKit

structure Keep (w1 wr : World) (F : List Nat) (A : Nat) (cs : List Nat) (ev : List Ev) (B n k : Nat) : Prop where
  o : Own w1 wr F A cs [] ev
  l : cs.length = n
  e : ev.length ≤ k
  b : wr.heap[B]? = some (.cells (ccells cs).toArray 31)
  f : B ∉ F
  lo : w1.heap.size ≤ B
theorem Keep.lt {w1 wr F A cs ev B n k} (h : Keep w1 wr F A cs ev B n k) : B < wr.heap.size := (Array.getElem?_eq_some_iff.1 h.b).1
theorem Keep.turn {w1 wr F A cs ev B n k} (h : Keep w1 wr F A cs ev B n k) {w' F' cs' ev'} (ho : Own w1 w' F' A cs' [] ev') (hl : cs'.length = n) (he : ev'.length ≤ k + 1) (hc : cs' = cs) (ht : Turn F wr F' w') : Keep w1 w' F' A cs' ev' B n (k + 1) := by
  subst hc
  obtain ⟨h1, h2⟩ := ht.apart B h.lt h.f
  exact ⟨ho, hl, he, h2.trans h.b, h1, h.lo⟩
theorem Keep.us {w1 wr F A cs ev B n k} (h : Keep w1 wr F A cs ev B n k) (hn : n ≤ 300) : Us wr (.slice (some ⟨B, 0, none⟩) n n) cs := by
  refine ⟨by simp [ccells], by have := h.l; unfold maxLen; omega, _, _, by rw [h.l], by simp, .inr ⟨B, 0, rfl, fun j hj => ?_⟩⟩
  unfold World.cell?
  rw [h.b]
  simp
theorem Keep.cell {w1 wr F A cs ev B n k} (h : Keep w1 wr F A cs ev B n k) {t : Nat} (ht : t < cs.length) : wr.cell? ⟨B, t, none⟩ = some (.int .u64 (cs[t] : Int)) :=
  cell_in h.b (by simp [ccells, List.getElem?_eq_getElem ht])
theorem Keep.below {w1 wr F A cs ev B n k} (h : Keep w1 wr F A cs ev B n k) {w' : World} (hb : Below wr.heap.size wr w') : Keep w1 w' F A cs ev B n k :=
  ⟨h.o.below hb, h.l, h.e, (hb.block B h.lt).trans h.b, h.f, h.lo⟩
theorem Keep.same {w1 wr F A cs ev B n k} (h : Keep w1 wr F A cs ev B n k) {w' : World} (ho : Own w1 w' F A cs [] ev) (ht : Turn F wr F w') : Keep w1 w' F A cs ev B n k :=
  ⟨ho, h.l, h.e, (ht.apart B h.lt h.f).2.trans h.b, h.f, h.lo⟩
theorem Keep.over {w1 wr F A cs ev B n k} (h : Keep w1 wr F A cs ev B n k) {o : Obj} {F4 : List Nat} {w4 : World} (ht : Turn F (wr.alloc o) F4 w4) :
    w4.heap[wr.heap.size]? = some o ∧ B ∉ F4 ∧ w4.heap[B]? = some (.cells (ccells cs).toArray 31) := by
  have hlt := h.lt
  obtain ⟨h1, h2⟩ := ht.apart B (by simp; omega) h.f
  obtain ⟨_, h4⟩ := ht.apart wr.heap.size (by simp) (fun hm => by have := (h.o.lo _ hm).2; omega)
  exact ⟨h4.trans (heap_alloc_new _ _), h1, h2.trans ((Below.heap_alloc _ _ _ hlt).trans h.b)⟩
theorem Keep.go {w1 wr F A cs ev B n k} (h : Keep w1 wr F A cs ev B n k) {w4 F4 cs' ev'} (ho : Own w1 w4 F4 A cs' [] ev') (hl : cs.length = n) (hc : cs' = cs) (hb : w4.heap[B]? = some (.cells (ccells cs).toArray 31)) (hf : B ∉ F4) (he : ev'.length ≤ ev.length + 1) : Keep w1 w4 F4 A cs' ev' B n (k + 1) := by
  subst hc
  exact ⟨ho, hl, by have := h.e; omega, hb, hf, h.lo⟩
theorem Keep.put {w1 wr F A cs ev B n k} (h : Keep w1 wr F A cs ev B n k) {w4 F4 t v ev'} (ho : Own w1 w4 F4 A (cs.set t v) [] ev') (ht : t < cs.length) (hb : w4.heap[B]? = some (.cells (ccells cs).toArray 31)) (hf : B ∉ F4) (he : ev'.length ≤ ev.length + 1) :
    Keep w1 (w4.setCell ⟨B, t, none⟩ (.int .u64 (v : Int))) F4 A (cs.set t v) ev' B n (k + 1) ∧ w4.cell? ⟨B, t, none⟩ = some (.int .u64 (cs[t] : Int)) := by
  refine ⟨⟨ho.aside (fun k hk => Below.heap_setCell _ _ _ _ (fun e => hf (by rw [← show k = B from e]; exact hk))) (by simp [World.size_setCell]) ?_, by rw [List.length_set]; exact h.l, by have := h.e; omega, ?_, hf, h.lo⟩, cell_in hb (by simp [ccells, List.getElem?_eq_getElem ht])⟩
  · exact ho.b.setCell h.lo _
  · rw [heap_setCell_at _ hb]
    congr 2
    apply Array.ext'
    simp [ccells, List.map_set]
theorem stepE_good {n len : Nat} {a : Int} (h0 : 0 ≤ a) (h1 : a < n) (hl : len ≤ 200) : stepE n len a = 0 := by
  unfold stepE; rw [if_neg (by omega), if_neg (by omega)]
theorem stepE_bad {n len : Nat} {a : Int} (h : a < 0 ∨ (n : Int) ≤ a) : stepE n len a = 7 := by
  unfold stepE; rw [if_pos h]
theorem stepV_len {n : Nat} {ev : List Ev} {k : Nat} {a : Int} : (stepV n ev k a).length ≤ ev.length + 1 := by
  unfold stepV; split <;> simp
theorem made_cells {w' : World} {base n g : Nat} (hn : 1 ≤ n) (hown : w'.ownsRow base 31 1 (.slice (some ⟨g, 0, none⟩) n n) n (madeCells #[.int .u64 0] (n * 1)).toList) : w'.heap[g]? = some (.cells (ccells (List.replicate n 0)).toArray 31) := by
  rw [Nat.mul_one, toList_madeCells_one] at hown
  rcases hown.2 with ⟨_, h0⟩ | ⟨g1, cap, cur, he, hgb, hg, _, _, hs, ht⟩
  · omega
  · injection he with e1 e2 e3
    injection e1 with e1
    injection e1 with e1
    subst e1
    subst e3
    have hcur : cur = (ccells (List.replicate n 0)).toArray := by
      apply Array.ext'
      rw [Nat.mul_one, List.take_of_length_le (by rw [Array.length_toList]; omega)] at ht
      rw [ht]; simp [ccells]
    rw [hg, hcur]
set_option maxRecDepth 100000 in
set_option maxHeartbeats 20000000 in
theorem walkK (c : Nat) (hc : c < 65536) (v : Value) (L : List Cl) (w : World) (hL : Cls w v L) (hok : ∀ p ∈ L, p.ok) :
    Calls Tryd.prog 3 #[.int .u16 (c : Int), v] w fun e w' => e = .returned (.bool true) ∧ Below w.heap.size w w' := by
  have KF := Lib.hid (far_p v L w hL)
  have HL := Lib.hid hL
  obtain ⟨a, capa, rfl⟩ := Row.form2 hL
  clear hL
  by_cases hf : farV L = true
  · rw [hf] at KF
    go_enter Tryd.func3, Tryd.ntmps3
    go_wp2_with fail
    refine KF.out.mono ?_
    rintro e w1 ⟨rfl, hb1⟩
    go_wp2_with fail
    refine (awake_p _).mono ?_
    rintro e w2 ⟨rfl, hb2⟩
    go_wp2_with fail
    go_ret
    exact ⟨rfl, next hb1 hb2⟩
  · rw [Bool.not_eq_true] at hf
    rw [hf] at KF
    obtain ⟨h200, hnames⟩ := not_far hf
    clear hf
    have hm300 : c % 300 < 300 := Nat.mod_lt _ (by omega)
    have KN := Lib.hid (fun w => new_o (w := w) (1 + c % 300) (by omega) (by omega))
    have hcm : ((c : Int) % 300) = ((c % 300 : Nat) : Int) := by omega
    generalize c % 300 = m at *
    go_enter Tryd.func3, Tryd.ntmps3
    go_wp2_with fail
    refine KF.out.mono ?_
    rintro e w1 ⟨rfl, hb1⟩
    have HB1 := Lib.hid hb1
    clear hb1
    go_wp2_with fail
    refine (KN.out w1).mono ?_
    rintro e w2 ⟨A, F, rfl, hO, hF⟩
    have HO := Lib.hid hO
    have HF := Lib.hid hF
    clear hO hF
    obtain ⟨i0, hi, hz0, hz1, hz2⟩ := info_parts infoU64
    go_wp2_with (first | (at_make; refine wpList_make_full _ rfl _ _ 30 rfl w2.heap.size 31 i0 _ 1 Tryd.underlying30 hi hz0 hz1 _ _ _ _ (1 + m) rfl rfl (by omega) (by omega) (by rw [hz2]; omega) (by unfold maxLen; omega) (Nat.le_refl _) ?_; intro w3 hown hgrow))
    have hb3 : Below w2.heap.size w2 w3 := (Below.refl _ _).grown hgrow (Nat.le_refl _) (fun q e => by cases e)
    have hfree : w2.heap.size ∉ F := fun hm => by have := (HO.out.lo _ hm).2; omega
    have hgc := made_cells (by omega) hown
    have HK := Lib.hid (show Keep w1 w3 F A (List.replicate (1 + m) 0) [] w2.heap.size (1 + m) 0 from ⟨HO.out.below hb3, by simp, by simp, hgc, hfree, HO.out.b.size⟩)
    clear hown hgrow hgc hfree hz0 hz1 hz2 hi
    generalize w2.heap.size = B at *
    have hm1 : L.length ≤ 9223372036854775807 := by omega
    go_loopw [9] (fun iv wr => ∃ k : Nat, k ≤ L.length ∧ iv = .int .i64 (k : Nat) ∧ ∃ F cs ev, Keep w1 wr F A cs ev B (1 + m) k) (fun iv _ => L.length - (intOf iv).toNat)
    case atStart => exact ⟨0, by omega, rfl, _, _, _, HK.out⟩
    case round =>
      obtain ⟨k, hk, rfl, F1, cs, ev, hK⟩ := hrel
      have HK1 := Lib.hid hK
      have hlc := hK.l
      clear hK
      by_cases hlt : k < L.length
      · obtain ⟨g, o, hga, hg, hc0, hc1, hc2, hc3, hc4⟩ := Cls.at (Row.below HL.out (next HB1.out HK1.out.o.b)) hlt
        subst hga
        have i1 : (0 : Int) ≤ (k : Int) := by omega
        have i2 : (k : Int) < (L.length : Int) := by omega
        have wi1 : IntKind.i64.wrap ((k : Int) + 1) = (k : Int) + 1 := IntWalk.i64_in _ (by omega)
        obtain ⟨o1, o2, o3, o4⟩ := hok _ (List.getElem_mem hlt)
        generalize L[k] = x at *
        have hpar : x.what % 2 = 0 ∨ x.what % 2 = 1 := by omega
        by_cases hg1 : 0 ≤ x.at'
        · by_cases hg2 : x.at' < 1 + (m : Int)
          · obtain ⟨t, ht⟩ : ∃ t : Nat, x.at' = t := ⟨x.at'.toNat, by omega⟩
            rw [ht] at hg1 hg2 hc1
            rcases hpar with hpar | hpar
            · have t1 : ((x.what : Int) % 2 == 0) = true := by exact beq_iff_eq.2 (by omega)
              have hO := HK1.out.o.below ((Below.refl _ _).alloc (Nat.le_refl _) (.cells #[.int .u8 (x.what : Int), .int .i64 (t : Int), .int .i64 x.n, .int .u64 (x.v : Int), .string (str x.name)] 33))
              have K := Lib.hid (load_o (t : Int) hO)
              rw [show stepE cs.length ev.length (t : Int) = 0 from stepE_good (by omega) (by omega) (by have := HK1.out.e; omega)] at K
              clear hO
              go_wp2_with fail
              refine K.out.mono ?_
              rintro e w4 ⟨rfl, F4, hO4, hT4⟩
              obtain ⟨hX, hnf, hbs⟩ := HK1.out.over hT4
              have x1 : w4.cell? ⟨wr.heap.size, 1, none⟩ = some (.int .i64 (t : Int)) := cell_in hX rfl
              have x3 : w4.cell? ⟨wr.heap.size, 3, none⟩ = some (.int .u64 (x.v : Int)) := cell_in hX rfl
              clear hX hT4 hc0 hc1 hc2 hc3 hc4 K
              have htl : t < cs.length := by omega
              have hK4 : Keep w1 w4 F4 A cs _ B (1 + m) (k + 1) := HK1.out.go hO4 hlc rfl hbs hnf stepV_len
              have e4 : loadV cs ev.length (t : Int) = cs[t] := by
                unfold loadV; rw [if_pos (stepE_good (by omega) (by omega) (by have := HK1.out.e; omega)), Int.toNat_natCast, List.getD_eq_getElem?_getD, List.getElem?_eq_getElem htl]; rfl
              rw [e4]
              have cB := hK4.cell htl
              generalize cs[t] = q at *
              have HK4 := Lib.hid hK4
              clear hO4 hK4 hnf hbs
              go_wp2_with fail
              exact ⟨⟨k + 1, by omega, by go_num, F4, _, _, HK4.out⟩, by simp [intOf]; omega⟩
            · have t1 : ((x.what : Int) % 2 == 0) = false := by exact beq_eq_false_iff_ne.2 (by omega)
              have hO := HK1.out.o.below ((Below.refl _ _).alloc (Nat.le_refl _) (.cells #[.int .u8 (x.what : Int), .int .i64 (t : Int), .int .i64 x.n, .int .u64 (x.v : Int), .string (str x.name)] 33))
              have K := Lib.hid (store_o (t : Int) x.v o4 hO)
              rw [show stepE cs.length ev.length (t : Int) = 0 from stepE_good (by omega) (by omega) (by have := HK1.out.e; omega)] at K
              clear hO
              go_wp2_with fail
              refine K.out.mono ?_
              rintro e w4 ⟨rfl, F4, hO4, hT4⟩
              obtain ⟨hX, hnf, hbs⟩ := HK1.out.over hT4
              have x1 : w4.cell? ⟨wr.heap.size, 1, none⟩ = some (.int .i64 (t : Int)) := cell_in hX rfl
              have x3 : w4.cell? ⟨wr.heap.size, 3, none⟩ = some (.int .u64 (x.v : Int)) := cell_in hX rfl
              clear hX hT4 hc0 hc1 hc2 hc3 hc4 K
              have es : storeV cs ev.length (t : Int) x.v = cs.set t x.v := by
                unfold storeV; rw [if_pos (stepE_good (by omega) (by omega) (by have := HK1.out.e; omega)), Int.toNat_natCast]
              rw [es] at hO4
              obtain ⟨hKs, hfr⟩ := HK1.out.put (t := t) (v := x.v) hO4 (by omega) hbs hnf stepV_len
              have hfz := free_in (i := t) hbs
              have K2 := Lib.hid (cells_o hKs.o)
              have HKs := Lib.hid hKs
              clear hO4 hKs hnf es hbs
              go_wp2_with fail
              refine K2.out.mono ?_
              rintro e w5 ⟨v5, rfl, hR5, -, hO5, hT5⟩
              have hK5 := HKs.out.same hO5 hT5
              have K3 := Lib.hid (same_u v5 _ _ _ w5 hR5 (hK5.us (by omega)))
              rw [decide_eq_true rfl] at K3
              have HK5 := Lib.hid hK5
              clear K2 hR5 hO5 hT5 hK5
              go_wp2_with fail
              refine K3.out.mono ?_
              rintro e w6 ⟨rfl, hb6⟩
              have HK6 := Lib.hid (HK5.out.below hb6)
              clear hb6 K3
              go_wp2_with fail
              exact ⟨⟨k + 1, by omega, by go_num, F4, _, _, HK6.out⟩, by simp [intOf]; omega⟩
          · rcases hpar with hpar | hpar
            · have t1 : ((x.what : Int) % 2 == 0) = true := by exact beq_iff_eq.2 (by omega)
              have hO := HK1.out.o.below ((Below.refl _ _).alloc (Nat.le_refl _) (.cells #[.int .u8 (x.what : Int), .int .i64 x.at', .int .i64 x.n, .int .u64 (x.v : Int), .string (str x.name)] 33))
              have K := Lib.hid (load_o x.at' hO)
              rw [show stepE cs.length ev.length x.at' = 7 from stepE_bad (by omega)] at K
              clear hO
              go_wp2_with fail
              refine K.out.mono ?_
              rintro e w4 ⟨rfl, F4, hO4, hT4⟩
              obtain ⟨hX, hnf, hbs⟩ := HK1.out.over hT4
              have x1 : w4.cell? ⟨wr.heap.size, 1, none⟩ = some (.int .i64 x.at') := cell_in hX rfl
              have x3 : w4.cell? ⟨wr.heap.size, 3, none⟩ = some (.int .u64 (x.v : Int)) := cell_in hX rfl
              clear hX hT4 hc0 hc1 hc2 hc3 hc4 K
              have hK4 : Keep w1 w4 F4 A cs _ B (1 + m) (k + 1) := HK1.out.go hO4 hlc rfl hbs hnf stepV_len
              have e4 : loadV cs ev.length x.at' = 0 := by unfold loadV; rw [if_neg (by rw [stepE_bad (by omega)]; decide)]
              rw [e4]
              have HK4 := Lib.hid hK4
              clear hO4 hK4 hnf hbs
              go_wp2_with fail
              exact ⟨⟨k + 1, by omega, by go_num, F4, _, _, HK4.out⟩, by simp [intOf]; omega⟩
            · have t1 : ((x.what : Int) % 2 == 0) = false := by exact beq_eq_false_iff_ne.2 (by omega)
              have hO := HK1.out.o.below ((Below.refl _ _).alloc (Nat.le_refl _) (.cells #[.int .u8 (x.what : Int), .int .i64 x.at', .int .i64 x.n, .int .u64 (x.v : Int), .string (str x.name)] 33))
              have K := Lib.hid (store_o x.at' x.v o4 hO)
              rw [show stepE cs.length ev.length x.at' = 7 from stepE_bad (by omega)] at K
              clear hO
              go_wp2_with fail
              refine K.out.mono ?_
              rintro e w4 ⟨rfl, F4, hO4, hT4⟩
              obtain ⟨hX, hnf, hbs⟩ := HK1.out.over hT4
              have x1 : w4.cell? ⟨wr.heap.size, 1, none⟩ = some (.int .i64 x.at') := cell_in hX rfl
              have x3 : w4.cell? ⟨wr.heap.size, 3, none⟩ = some (.int .u64 (x.v : Int)) := cell_in hX rfl
              clear hX hT4 hc0 hc1 hc2 hc3 hc4 K
              have es : storeV cs ev.length x.at' x.v = cs := by unfold storeV; rw [if_neg (by rw [stepE_bad (by omega)]; decide)]
              rw [es] at hO4
              have hKs : Keep w1 w4 F4 A cs _ B (1 + m) (k + 1) := HK1.out.go hO4 hlc rfl hbs hnf stepV_len
              have K2 := Lib.hid (cells_o hKs.o)
              have HKs := Lib.hid hKs
              clear hO4 hKs hnf es hbs
              go_wp2_with fail
              refine K2.out.mono ?_
              rintro e w5 ⟨v5, rfl, hR5, -, hO5, hT5⟩
              have hK5 := HKs.out.same hO5 hT5
              have K3 := Lib.hid (same_u v5 _ _ _ w5 hR5 (hK5.us (by omega)))
              rw [decide_eq_true rfl] at K3
              have HK5 := Lib.hid hK5
              clear K2 hR5 hO5 hT5 hK5
              go_wp2_with fail
              refine K3.out.mono ?_
              rintro e w6 ⟨rfl, hb6⟩
              have HK6 := Lib.hid (HK5.out.below hb6)
              clear hb6 K3
              go_wp2_with fail
              exact ⟨⟨k + 1, by omega, by go_num, F4, _, _, HK6.out⟩, by simp [intOf]; omega⟩
        · rcases hpar with hpar | hpar
          · have t1 : ((x.what : Int) % 2 == 0) = true := by exact beq_iff_eq.2 (by omega)
            have hO := HK1.out.o.below ((Below.refl _ _).alloc (Nat.le_refl _) (.cells #[.int .u8 (x.what : Int), .int .i64 x.at', .int .i64 x.n, .int .u64 (x.v : Int), .string (str x.name)] 33))
            have K := Lib.hid (load_o x.at' hO)
            rw [show stepE cs.length ev.length x.at' = 7 from stepE_bad (by omega)] at K
            clear hO
            go_wp2_with fail
            refine K.out.mono ?_
            rintro e w4 ⟨rfl, F4, hO4, hT4⟩
            obtain ⟨hX, hnf, hbs⟩ := HK1.out.over hT4
            have x1 : w4.cell? ⟨wr.heap.size, 1, none⟩ = some (.int .i64 x.at') := cell_in hX rfl
            have x3 : w4.cell? ⟨wr.heap.size, 3, none⟩ = some (.int .u64 (x.v : Int)) := cell_in hX rfl
            clear hX hT4 hc0 hc1 hc2 hc3 hc4 K
            have hK4 : Keep w1 w4 F4 A cs _ B (1 + m) (k + 1) := HK1.out.go hO4 hlc rfl hbs hnf stepV_len
            have e4 : loadV cs ev.length x.at' = 0 := by unfold loadV; rw [if_neg (by rw [stepE_bad (by omega)]; decide)]
            rw [e4]
            have HK4 := Lib.hid hK4
            clear hO4 hK4 hnf hbs
            go_wp2_with fail
            exact ⟨⟨k + 1, by omega, by go_num, F4, _, _, HK4.out⟩, by simp [intOf]; omega⟩
          · have t1 : ((x.what : Int) % 2 == 0) = false := by exact beq_eq_false_iff_ne.2 (by omega)
            have hO := HK1.out.o.below ((Below.refl _ _).alloc (Nat.le_refl _) (.cells #[.int .u8 (x.what : Int), .int .i64 x.at', .int .i64 x.n, .int .u64 (x.v : Int), .string (str x.name)] 33))
            have K := Lib.hid (store_o x.at' x.v o4 hO)
            rw [show stepE cs.length ev.length x.at' = 7 from stepE_bad (by omega)] at K
            clear hO
            go_wp2_with fail
            refine K.out.mono ?_
            rintro e w4 ⟨rfl, F4, hO4, hT4⟩
            obtain ⟨hX, hnf, hbs⟩ := HK1.out.over hT4
            have x1 : w4.cell? ⟨wr.heap.size, 1, none⟩ = some (.int .i64 x.at') := cell_in hX rfl
            have x3 : w4.cell? ⟨wr.heap.size, 3, none⟩ = some (.int .u64 (x.v : Int)) := cell_in hX rfl
            clear hX hT4 hc0 hc1 hc2 hc3 hc4 K
            have es : storeV cs ev.length x.at' x.v = cs := by unfold storeV; rw [if_neg (by rw [stepE_bad (by omega)]; decide)]
            rw [es] at hO4
            have hKs : Keep w1 w4 F4 A cs _ B (1 + m) (k + 1) := HK1.out.go hO4 hlc rfl hbs hnf stepV_len
            have K2 := Lib.hid (cells_o hKs.o)
            have HKs := Lib.hid hKs
            clear hO4 hKs hnf es hbs
            go_wp2_with fail
            refine K2.out.mono ?_
            rintro e w5 ⟨v5, rfl, hR5, -, hO5, hT5⟩
            have hK5 := HKs.out.same hO5 hT5
            have K3 := Lib.hid (same_u v5 _ _ _ w5 hR5 (hK5.us (by omega)))
            rw [decide_eq_true rfl] at K3
            have HK5 := Lib.hid hK5
            clear K2 hR5 hO5 hT5 hK5
            go_wp2_with fail
            refine K3.out.mono ?_
            rintro e w6 ⟨rfl, hb6⟩
            have HK6 := Lib.hid (HK5.out.below hb6)
            clear hb6 K3
            go_wp2_with fail
            exact ⟨⟨k + 1, by omega, by go_num, F4, _, _, HK6.out⟩, by simp [intOf]; omega⟩
      · obtain rfl : L.length = k := by omega
        have i1 : ¬ ((L.length : Int) < (L.length : Int)) := by omega
        have K := Lib.hid (cells_o HK1.out.o)
        go_wp2_with fail
        refine K.out.mono ?_
        rintro e w5 ⟨v5, rfl, hR5, -, hO5, hT5⟩
        have hK5 := HK1.out.same hO5 hT5
        have K3 := Lib.hid (same_u v5 _ _ _ w5 hR5 (hK5.us (by omega)))
        rw [decide_eq_true rfl] at K3
        have HK5 := Lib.hid hK5
        clear K hR5 hO5 hT5 hK5
        go_wp2_with fail
        refine K3.out.mono ?_
        rintro e w6 ⟨rfl, hb6⟩
        have HK6 := Lib.hid (HK5.out.below hb6)
        clear hb6 K3
        go_wp2_with fail
        refine (awake_p _).mono ?_
        rintro e w7 ⟨rfl, hb7⟩
        go_wp2_with fail
        go_ret
        exact ⟨rfl, next (next HB1.out HK6.out.o.b) hb7⟩
set_option maxRecDepth 100000 in
theorem walk {H : Type} {enc : TypeId × Value → H} {d : DataW H} {q : List MemPlace} {base : Nat} (a : Int) (v : Value) (w : World) (ha : IntKind.u16.has a)
    (hk : DataW.Trod enc Tryd.prog w 0 (fun _ => true) true 23 v d q) (_ : Value.okWide Tryd.prog w .any base 23 v) :
    Calls Tryd.prog 3 #[.int .u16 a, v] w fun e w' => e = .returned (.bool true) ∧ Below w.heap.size w w' := by
  obtain ⟨m, hn⟩ := hk
  rename_i hv
  obtain ⟨z, len, cap, rfl⟩ := okWide_slice Tryd.underlying23 hv
  obtain ⟨L, hL, hok⟩ := calls_of hn
  have := has_u16 ha
  obtain ⟨c, rfl⟩ : ∃ c : Nat, a = c := ⟨a.toNat, by omega⟩
  exact walkK c (by omega) _ L w hL hok

theorem own : ownKnob Tryd.prog.godebug = none := by kernel_rfl
theorem laidOut : laidOutB Tryd.prog = true := by kernel_rfl
abbrev laidL : List (String × DataW Unit) := [("unicode/utf8.acceptRanges", Rows.laid_unicode_utf8_acceptRanges), ("unicode/utf8.first", Rows.laid_unicode_utf8_first)]

set_option maxRecDepth 100000 in
theorem lifted (os : Os) (started : os.Started) (H : Type) (enc : TypeId × Value → H) :
    ReturnsInHanded {} Tryd.checked os 3 .any (fun w args => (Rows.arenaKeepsSpec.pre enc Tryd.prog Tryd.f3 [] false w args ∧ laidMetH Tryd.prog laidL w) ∧ sizedMet enc Tryd.prog Tryd.f3 (OpenSpec.ofChange Rows.arenaKeepsSpec) false w args) (Rows.arenaKeepsSpec.post enc Tryd.prog Tryd.f3 false true false false) := by
  refine returnsInHanded_of_change_and (C := Tryd.checked) (X := fun w _ => laidMetH Tryd.prog laidL w) (fun _ _ _ hh h => h.of_heap hh) own started (by kernel_rfl) Tryd.func3
    (ChangeSpec.witness_shaped (enc := enc) (C := Tryd.checked) (os := os) (X := fun w _ => laidMetH Tryd.prog laidL w) false (laidWorld os) #[.int .u16 0, .slice none 0 0] 8 rfl (World.shaped_of_RefB (by kernel_rfl) (by kernel_rfl)) (by kernel_rfl) (by kernel_rfl) (by kernel_rfl) (door_met os _)) ?_
  intro W base args ds gs before hval0 hW _ _ _ _
  have hval : ∀ (j : Nat) t v, Tryd.f3.params[j]? = some t → args[j]? = some v → Value.okWide Tryd.prog W .any base t v := hval0
  have hW' := hW
  obtain ⟨p, q, hA0, hV, rfl, hfz, hnd⟩ := hW
  have hA : DataW.TrodAll enc Tryd.prog W 0 (fun _ => true) true Tryd.f3.params.toList args.toList ds p := hA0
  rw [Tryd.params3] at hA hval
  obtain ⟨v0, vs0, d0, ds0, p0, q0, hargs, rfl, rfl, k0, r0⟩ := trodAll_cons hA
  obtain ⟨v1, vs1, d1, ds1, p1, q1, rfl, rfl, rfl, k1, r1⟩ := trodAll_cons r0
  obtain ⟨rfl, rfl, rfl⟩ := trodAll_nil r1
  obtain rfl : args = #[v0, v1] := by cases args; simp_all
  obtain ⟨rfl, rfl⟩ := trodVars_none hV
  have lt0 : ∀ x ∈ p0, x.block < W.heap.size := by obtain ⟨m, hm⟩ := k0; exact DataW.trod_lt m _ _ _ hm
  have lt1 : ∀ x ∈ p1, x.block < W.heap.size := by obtain ⟨m, hm⟩ := k1; exact DataW.trod_lt m _ _ _ hm
  obtain ⟨a0, rfl, w0⟩ := arg_int Tryd.underlying22 (hval 0 22 v0 rfl rfl)
  clear hA0 hval0
  refine (walk a0 v1 W w0 k1 (hval 1 23 v1 rfl rfl)).mono fun e W' ⟨he, bel⟩ => ?_
  subst he
  exact ⟨_, rfl, _, _, _, [], _, [], hW', trodAll_mk1 (shut_bool Tryd.underlying4 _), (trodAll_cons_mk (Below.trod laidOut (by kernel_rfl) (of_decide_eq_true (by kernel_rfl)) k0 bel lt0) (trodAll_cons_mk (Below.trod laidOut (by kernel_rfl) (of_decide_eq_true (by kernel_rfl)) k1 bel lt1) trodAll_mk0)), rfl, bel.frame _, fun h => by cases h⟩

theorem over : Rows.arenaKeepsRow.holds Tryd.pinned (OpenSpec.ofChange Rows.arenaKeepsSpec) :=
  OpenClaim.holds_of_wide 3 Tryd.f3 rfl rfl rfl rfl rfl rfl rfl ⟨rfl, rfl, rfl, rfl, rfl⟩ rfl rfl rfl rfl rfl (by kernel_rfl) Tryd.func3 (by kernel_rfl)
    (of_decide_eq_true (by kernel_rfl)) (by unfold Func.isWrapper; first | (rw [if_pos (by decide +kernel)]; kernel_rfl) | (rw [if_neg (by decide +kernel)]; exact ⟨rfl, rfl⟩))
    (fun os started H enc _ => lifted os started H enc)

theorem proved : Rows.ArenaKeepsCardSaid :=
  Claim7.holds_tied_plain_at .later [] [.data, .pinned] true (true, "fa0ba3bc22dc5505d8766bf6efcc6355ea8fadaca26ff31e805dd7d45e3f142c") false
    over (fun _ h => by cases h) (by kernel_rfl) (fun _ h => by cases h) arenaKeeps_row_tie rfl ⟨rfl, rfl⟩ (by kernel_rfl) rfl
    (fun f fn hf hfn => by
      obtain rfl : f = 3 := Option.some.inj ((show Tryd.prog.funcNamed "dragnet/dragnetlaw05.ArenaKeeps" = some 3 by kernel_rfl).symm.trans hf) |>.symm
      obtain rfl : fn = Tryd.f3 := (Option.some.inj (Tryd.func3.symm.trans hfn)).symm
      exact ⟨by kernel_rfl, fun j t ht => by
        rw [Tryd.params3] at ht
        have hm : t ∈ ([22, 23] : List Nat) := by simpa using Array.mem_of_getElem? ht
        have hall : (([22, 23] : List Nat).all fun u => !Tryd.prog.wantsStandIn u) = true := by kernel_rfl
        exact (show Tryd.prog.wantsStandIn t = false by simpa using List.all_eq_true.1 hall t hm)⟩)
    (by kernel_rfl)
#print axioms proved
end Go.Proofs.YtomjefplacgoeaaDoor.arenaKeeps
