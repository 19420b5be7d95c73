/- Layer 31: Total: plain Lean; kinds; cost.Total. -/
import Derived.Test.YtdfofojlnkhjjaaCShapes
import Derived.Laws.EntriesVeiled
namespace Go.Proofs.Ytdfofojlnkhjjaa
open Go.RowKit Go.Shelf

def tot (l s : Int) (fd : Int → Int) : List (Int × Int) → Int → Int → Int
  | [], sum, _ => sum
  | (k, n) :: t, sum, at_ => if k = 4 then sum else if k = 2 then tot l s fd t (sum + 2) at_ else if k = 3 then tot l s fd t (sum + s + 4) 0 else if n ≤ 1000 ∧ at_ + n ≤ l then tot l s fd t (sum + fd n) (at_ + n) else tot l s fd t sum at_
theorem tot_at (l s : Int) (fd : Int → Int) {L : List (Int × Int)} {i : Nat} (h : i < L.length) (sum at_ : Int) : tot l s fd (L.drop i) sum at_ =
    if L[i].1 = 4 then sum else if L[i].1 = 2 then tot l s fd (L.drop (i + 1)) (sum + 2) at_ else if L[i].1 = 3 then tot l s fd (L.drop (i + 1)) (sum + s + 4) 0
    else if L[i].2 ≤ 1000 ∧ at_ + L[i].2 ≤ l then tot l s fd (L.drop (i + 1)) (sum + fd L[i].2) (at_ + L[i].2) else tot l s fd (L.drop (i + 1)) sum at_ := by
  rw [List.drop_eq_getElem_cons h]
  rcases L[i] with ⟨x, y⟩
  rfl
theorem shE_ok : ∀ {l : List (Int × Int)} (_ : shE l = 0) {i : Nat} (h : i < l.length), 1 ≤ l[i].1 ∧ l[i].1 ≤ 4 ∧ 0 ≤ l[i].2 ∧ (0 < l[i].2 → l[i].1 = 1)
  | [], _, i, h => by simp at h
  | (x, y) :: t, e, i, h => by
    unfold shE at e
    split at e
    · omega
    · split at e
      · omega
      · split at e
        · omega
        · rename_i h1 h2 h3
          cases i with
          | zero =>
            simp only [List.getElem_cons_zero]
            refine ⟨by omega, by omega, by omega, fun h4 => ?_⟩
            by_cases h5 : x = 1
            · exact h5
            · exact absurd ⟨h4, h5⟩ h3
          | succ i =>
            simp only [List.getElem_cons_succ]
            exact shE_ok e (by simpa using h)

def totE (b k l s r : Int) (L : List (Int × Int)) : Int := if slotOk b k l s r then shapesE L else 7
def totV (b k l s r : Int) (L : List (Int × Int)) : Int := if slotOk b k l s r ∧ shapesE L = 0 then tot l s (fun n => fdV b k l s r n) L (openV b k l s r) 0 else 0

def kindsV : Value := .agg #[.int .i64 1, .func (.func 41) #[] #[], .int .i64 2, .func (.func 63) #[] #[], .int .i64 3, .func (.func 64) #[] #[], .int .i64 4, .func (.func 65) #[] #[]]
set_option maxRecDepth 100000 in
theorem kinds_p (w : World) : Calls Try.prog 50 #[] w fun e w' => e = .returned kindsV ∧ Below w.heap.size w w' := by
  go_enter Try.func50, Try.ntmps50
  go_wp2_with fail
  exact bodyPost_ret (v := kindsV) (by simp [results, Try.results50, go_sem, kindsV]) rfl ⟨rfl, (Below.refl _ _).alloc (Nat.le_refl _) _⟩
set_option maxRecDepth 100000 in
theorem kind1_p (b k l s r q n : Int) (w : World) : Calls Try.prog 63 #[planV b k l s r q, .int .i64 n] w fun e w' => e = .returned (.int .i64 2) ∧ Below w.heap.size w w' := by
  unfold planV
  go_enter Try.func63, Try.ntmps63
  go_wp2_with fail
  go_ret
  exact ⟨rfl, (Below.refl _ _).alloc (Nat.le_refl _) _⟩
set_option maxRecDepth 100000 in
theorem kind2_p (b k l s r q n : Int) (s1 : 1 ≤ s) (s2 : s ≤ 4) (w : World) : Calls Try.prog 64 #[planV b k l s r q, .int .i64 n] w fun e w' => e = .returned (.int .i64 (s + 4)) ∧ Below w.heap.size w w' := by
  unfold planV
  go_enter Try.func64, Try.ntmps64
  go_wp2_with fail
  go_ret
  exact ⟨rfl, (Below.refl _ _).alloc (Nat.le_refl _) _⟩
set_option maxRecDepth 100000 in
theorem kind3_p (b k l s r q n : Int) (w : World) : Calls Try.prog 65 #[planV b k l s r q, .int .i64 n] w fun e w' => e = .returned (.int .i64 0) ∧ Below w.heap.size w w' := by
  unfold planV
  go_enter Try.func65, Try.ntmps65
  go_wp2_with fail
  go_ret
  exact ⟨rfl, (Below.refl _ _).alloc (Nat.le_refl _) _⟩

@[go_sem] theorem run_kind0 (w : World) : (Instr.index 82 (.agg #[.int .i64 1, .func (.func 41) #[] #[], .int .i64 2, .func (.func 63) #[] #[], .int .i64 3, .func (.func 64) #[] #[], .int .i64 4, .func (.func 65) #[] #[]]) (.int .i64 0)).run Try.prog w = .ok (.agg #[Value.int IntKind.i64 1, Value.func (Fn.func 41) #[] #[]]) w := by kernel_rfl
@[go_sem] theorem run_kind1 (w : World) : (Instr.index 82 (.agg #[.int .i64 1, .func (.func 41) #[] #[], .int .i64 2, .func (.func 63) #[] #[], .int .i64 3, .func (.func 64) #[] #[], .int .i64 4, .func (.func 65) #[] #[]]) (.int .i64 1)).run Try.prog w = .ok (.agg #[Value.int IntKind.i64 2, Value.func (Fn.func 63) #[] #[]]) w := by kernel_rfl
@[go_sem] theorem run_kind2 (w : World) : (Instr.index 82 (.agg #[.int .i64 1, .func (.func 41) #[] #[], .int .i64 2, .func (.func 63) #[] #[], .int .i64 3, .func (.func 64) #[] #[], .int .i64 4, .func (.func 65) #[] #[]]) (.int .i64 2)).run Try.prog w = .ok (.agg #[Value.int IntKind.i64 3, Value.func (Fn.func 64) #[] #[]]) w := by kernel_rfl
@[go_sem] theorem run_kind3 (w : World) : (Instr.index 82 (.agg #[.int .i64 1, .func (.func 41) #[] #[], .int .i64 2, .func (.func 63) #[] #[], .int .i64 3, .func (.func 64) #[] #[], .int .i64 4, .func (.func 65) #[] #[]]) (.int .i64 3)).run Try.prog w = .ok (.agg #[Value.int IntKind.i64 4, Value.func (Fn.func 65) #[] #[]]) w := by kernel_rfl

/-- the memory of cost.Total's loop -/
structure TotAt (w : World) (B : Nat) (b k l s r q : Int) (W : World) : Prop where
  plain : Plain w w.heap.size b k l s r W
  plan : W.heap[B]? = some (.cells #[.int .i64 b, .int .i64 k, .int .i64 l, .int .i64 s, .int .i64 r, .int .i64 q] 61 (0, 0))
theorem TotAt.keep {w W W' : World} {B n : Nat} {b k l s r q : Int} (h : TotAt w B b k l s r q W) (hb : Below n W W') (hn : n = W.heap.size) : TotAt w B b k l s r q W' := ⟨h.plain.keep hb hn, later' hb h.plan hn⟩
theorem TotAt.alloc {w W : World} {B : Nat} {b k l s r q : Int} (h : TotAt w B b k l s r q W) (o : Obj) : TotAt w B b k l s r q (W.alloc o) := h.keep ((Below.refl _ _).alloc (Nat.le_refl _) _) rfl

theorem TotAt.lts {w W : World} {B : Nat} {b k l s r q : Int} (h : TotAt w B b k l s r q W) : w.heap.size < W.heap.size ∧ w.heap.size + 1 < W.heap.size ∧ B < W.heap.size :=
  ⟨(Array.getElem?_eq_some_iff.1 h.plain.cfg).1, (Array.getElem?_eq_some_iff.1 h.plain.shp).1, (Array.getElem?_eq_some_iff.1 h.plan).1⟩

/-- .. and of its inner loop -/
structure Tot5 (w : World) (B C : Nat) (b k l s r q x y : Int) (W : World) : Prop where
  tot : TotAt w B b k l s r q W
  shape : W.heap[C]? = some (.cells #[.int .i64 x, .int .i64 y] 58 (0, 0))
theorem Tot5.keep {w W W' : World} {B C n : Nat} {b k l s r q x y : Int} (h : Tot5 w B C b k l s r q x y W) (hb : Below n W W') (hn : n = W.heap.size) : Tot5 w B C b k l s r q x y W' := ⟨h.tot.keep hb hn, later' hb h.shape hn⟩
theorem Tot5.alloc {w W : World} {B C : Nat} {b k l s r q x y : Int} (h : Tot5 w B C b k l s r q x y W) (o : Obj) : Tot5 w B C b k l s r q x y (W.alloc o) := h.keep ((Below.refl _ _).alloc (Nat.le_refl _) _) rfl
theorem Tot5.facts {w W : World} {B C : Nat} {b k l s r q x y : Int} (h : Tot5 w B C b k l s r q x y W) :
    ((W.cell? ⟨B, 0, none⟩ = some (.int .i64 b) ∧ W.cell? ⟨B, 1, none⟩ = some (.int .i64 k) ∧ W.cell? ⟨B, 2, none⟩ = some (.int .i64 l) ∧ W.cell? ⟨B, 3, none⟩ = some (.int .i64 s) ∧ W.cell? ⟨B, 4, none⟩ = some (.int .i64 r) ∧ W.cell? ⟨B, 5, none⟩ = some (.int .i64 q)) ∧
    (W.cell? ⟨C, 0, none⟩ = some (.int .i64 x) ∧ W.cell? ⟨C, 1, none⟩ = some (.int .i64 y))) ∧ (B < W.heap.size ∧ B < W.heap.size + 1 ∧ B < W.heap.size + 1 + 1 ∧ B < W.heap.size + 1 + 1 + 1) ∧ (C < W.heap.size ∧ C < W.heap.size + 1 ∧ C < W.heap.size + 1 + 1 ∧ C < W.heap.size + 1 + 1 + 1) := by
  have h1 := (Array.getElem?_eq_some_iff.1 h.tot.plan).1
  have h2 := (Array.getElem?_eq_some_iff.1 h.shape).1
  exact ⟨⟨(c6 h.tot.plan).1, c2 h.shape⟩, ⟨h1, by omega, by omega, by omega⟩, ⟨h2, by omega, by omega, by omega⟩⟩

set_option maxRecDepth 100000 in
set_option maxHeartbeats 4000000 in
theorem total_ok (b k l s r : Int) (v : Value) (L : List (Int × Int)) (w : World) (hv : Pairs w v L) (hz : slotOk b k l s r = true) (hL : shapesE L = 0) :
    Calls Try.prog 27 #[cfgV b k l, shpV s r, v] w fun e w' => e = .returned (.tuple #[.int .i64 (tot l s (fun n => fdV b k l s r n) L (openV b k l s r) 0), .int .i64 0]) ∧ Below w.heap.size w w' := by
  have K1 := Lib.hid (fun w => open_p b k l s r w)
  have K2 := Lib.hid (fun w (h : Pairs w v L) => shapes_p v L w h)
  have K3 := Lib.hid (fun w => begun_p b k l s r w)
  have e0 : slotE b k l s r = 0 := by unfold slotE; rw [if_pos hz]
  have hq : slotV b k l s r = k + b * r := by unfold slotV; rw [if_pos hz]
  have ho : 0 ≤ openV b k l s r ∧ openV b k l s r ≤ 2000 := by
    obtain ⟨b1, b2, bb, k1, k2, l1, l2, s1, s2, r1, r2, m1, m2⟩ := fine hz
    have h1 : 0 ≤ r * s := Int.mul_nonneg (by omega) (by omega)
    have h2 : r * s ≤ 16 * 4 := Int.mul_le_mul r2 s2 (by omega) (by omega)
    unfold openV; rw [if_pos hz]; omega
  obtain ⟨b1, b2, bb, k1, k2, l1, l2, s1, s2, r1, r2, m1, m2⟩ := fine hz
  have hb : okB b = true := by rcases bb with rfl | rfl | rfl | rfl | rfl <;> rfl
  rw [e0] at K1 K3
  rw [hL] at K2
  rw [hq] at K3
  have hsh : shE L = 0 ∧ L.length ≤ 200 := by
    unfold shapesE at hL
    split at hL
    · omega
    · exact ⟨hL, by omega⟩
  obtain ⟨fd, hfd⟩ : ∃ fd : Int → Int, fd = fun n => fdV b k l s r n := ⟨_, rfl⟩
  have hfn : ∀ n, fd n = fdV b k l s r n := fun n => by rw [hfd]
  rw [← hfd]
  have KF := Lib.hid (fun (n : Int) (h1 : 0 ≤ n) (h2 : n ≤ 1000) (w : World) => show Calls Try.prog 41 #[planV b k l s r (k + b * r), .int .i64 n] w fun e w' => e = .returned (.int .i64 (fd n)) ∧ Below w.heap.size w w' from by
    have := feedM_p b k l s r (k + b * r) n b1 b2 (by omega) (by omega) s1 s2 r1 r2 (by omega) (by omega) w
    rwa [hfn, show fdV b k l s r n = feedV b k s r (k + b * r) (manyV n b) by unfold fdV; rw [if_pos (by unfold fdE; rw [if_pos hz]; exact lenE_ok hb h1 h2)]])
  have KB := Lib.hid (fun (n : Int) => by rw [hfn]; exact fdV_bd b k l s r n : ∀ n, 0 ≤ fd n ∧ fd n ≤ 100001000)
  have KQ1 := Lib.hid (fun n w => kind1_p b k l s r (k + b * r) n w)
  have KQ2 := Lib.hid (fun n w => kind2_p b k l s r (k + b * r) n s1 s2 w)
  have KQ3 := Lib.hid (fun n w => kind3_p b k l s r (k + b * r) n w)
  have HS := Lib.hid (fun (i : Nat) (h : i < L.length) => shE_ok hsh.1 h)
  have hlen := hsh.2
  have HT := Lib.hid (fun (i : Nat) (h : i < L.length) (sum at_ : Int) => tot_at l s fd h sum at_)
  have HP := Lib.hid (Plain.start w b k l s r)
  obtain ⟨_, av, capv, rfl, _⟩ := id hv
  have HV := Lib.hid hv
  generalize openV b k l s r = O at *
  generalize hT0 : tot l s fd L O 0 = T
  have HT0 := Lib.hid hT0
  generalize hq0 : k + b * r = q at *
  clear hT0 hfd hfn hv hz hL hsh e0 hq bb hb hq0
  obtain ⟨⟨d0, d1, d2⟩, ⟨d3, d4⟩, _⟩ := HP.out.cells
  unfold cfgV shpV planV at *
  go_enter Try.func27, Try.ntmps27
  go_wp2_with fail
  refine (K1.out _).mono ?_
  rintro e w1 ⟨rfl, hb⟩
  have P1 := Lib.hid (HP.out.keep hb rfl)
  clear d0 d1 d2 d3 d4 hb
  go_wp2_with fail
  refine (K2.out _ (HV.out.below P1.out.bel)).mono ?_
  rintro e w2 ⟨rfl, hb⟩
  have P2 := Lib.hid (P1.out.keep hb rfl)
  clear hb
  obtain ⟨⟨d0, d1, d2⟩, ⟨d3, d4⟩, _⟩ := P2.out.cells
  go_wp2_with fail
  refine (K3.out _).mono ?_
  rintro e w3 ⟨rfl, hb⟩
  have P3 := Lib.hid (P2.out.keep hb rfl)
  clear d0 d1 d2 d3 d4 hb
  have HT3 := Lib.hid (show TotAt w w3.heap.size b k l s r q (w3.alloc (.cells #[.int .i64 b, .int .i64 k, .int .i64 l, .int .i64 s, .int .i64 r, .int .i64 q] 61)) from
    ⟨P3.out.keep ((Below.refl _ _).alloc (Nat.le_refl _) _) rfl, heap_alloc_new _ _⟩)
  go_wp2_with fail
  go_loopw [12, 13, 40] (fun sv atv iv wr => ∃ (i : Nat) (sum at_ : Int), i ≤ L.length ∧ iv = .int .i64 (i : Nat) ∧ sv = .int .i64 sum ∧ atv = .int .i64 at_ ∧ 0 ≤ sum ∧ sum ≤ (i + 1 : Nat) * 200000000 ∧ 0 ≤ at_ ∧ at_ ≤ l ∧ T = tot l s fd (L.drop i) sum at_ ∧ TotAt w w3.heap.size b k l s r q wr) (fun _ _ iv _ => L.length - (intOf iv).toNat)
  case atStart => exact ⟨0, O, 0, by omega, rfl, rfl, rfl, ho.1, by omega, by omega, by omega, by rw [List.drop_zero]; exact HT0.out.symm, HT3.out⟩
  case round =>
    obtain ⟨i, sum, at_, hi, rfl, rfl, rfl, hs0, hs1, ha0, ha1, hT, hTA⟩ := hrel
    have HTA := Lib.hid hTA
    clear hTA
    by_cases hlt : i < L.length
    · obtain ⟨g, o, rfl, hg, q1, q2⟩ := HV.out.at hlt
      have v1 := (HTA.out.plain.bel.cell (p := ⟨g, o + i * 2, none⟩) hg).trans q1
      have v2 := (HTA.out.plain.bel.cell (p := ⟨g, o + i * 2 + 1, none⟩) hg).trans q2
      rw [HT.out i hlt] at hT
      obtain ⟨x1, x2, x3, x4⟩ := HS.out i hlt
      clear q1 q2
      generalize L[i].1 = x at *
      generalize L[i].2 = y at *
      have i0 : (0 : Int) ≤ (i : Int) := by omega
      have i1 : (i : Int) < (L.length : Int) := by omega
      obtain ⟨⟨d0, d1, d2⟩, ⟨d3, d4⟩, _⟩ := HTA.out.plain.cells
      obtain ⟨n0, n1, n2⟩ := HTA.out.lts
      by_cases hy : y ≤ 1000 ∧ at_ + y ≤ l
      · obtain ⟨y1, y2⟩ := hy
        have t1 : ¬ (1000 : Int) < y := by omega
        have t2 : ¬ l < at_ + y := by omega
        obtain ⟨f1, f2⟩ := KB.out y
        rcases (show x = 1 ∨ x = 2 ∨ x = 3 ∨ x = 4 by omega) with rfl | rfl | rfl | rfl
        · rw [if_neg (by omega), if_neg (by omega), if_neg (by omega), if_pos ⟨y1, y2⟩] at hT
          have HTn := Lib.hid hT
          clear hT
          go_wp2_with fail
          refine (kinds_p _).mono ?_
          rintro e w5 ⟨rfl, hb⟩
          have H5 := Lib.hid (Tot5.keep ⟨HTA.out.alloc _, heap_alloc_new _ _⟩ hb rfl)
          clear d0 d1 d2 d3 d4 v1 v2 hb n0 n1 n2
          obtain ⟨⟨⟨p0, p1, p2, p3, p4, p5⟩, ⟨s0, s1'⟩⟩, ⟨n2, n2a, n2b, n2c⟩, ⟨n3, n3a, n3b, n3c⟩⟩ := H5.out.facts
          unfold kindsV
          go_wp2_with fail
          refine wp_loop_rounds 5 ?_
          rw [rounds_succ]
          go_wp2_with fail
          refine (KF.out y (by omega) (by omega) _).mono ?_
          rintro e w6 ⟨rfl, hb⟩
          have H6 := Lib.hid ((H5.out.alloc _).keep hb rfl)
          clear p0 p1 p2 p3 p4 p5 s0 s1' n2 n3 n2a n2b n2c n3a n3b n3c hb
          obtain ⟨⟨⟨p0, p1, p2, p3, p4, p5⟩, ⟨s0, s1'⟩⟩, ⟨n2, n2a, n2b, n2c⟩, ⟨n3, n3a, n3b, n3c⟩⟩ := H6.out.facts
          go_wp2_with fail
          rw [rounds_succ]
          go_wp2_with fail
          rw [rounds_succ]
          go_wp2_with fail
          rw [rounds_succ]
          go_wp2_with fail
          rw [rounds_succ]
          go_wp2_with fail
          exact ⟨⟨i + 1, sum + fd y, at_ + y, by omega, by go_num, rfl, rfl, by omega, by omega, by omega, by omega, HTn.out, (((H6.out.tot.alloc _).alloc _).alloc _)⟩, by simp [intOf]; omega⟩
        · obtain rfl : y = 0 := by omega
          rw [if_neg (by omega), if_pos rfl] at hT
          have HTn := Lib.hid hT
          clear hT
          go_wp2_with fail
          refine (kinds_p _).mono ?_
          rintro e w5 ⟨rfl, hb⟩
          have H5 := Lib.hid (Tot5.keep ⟨HTA.out.alloc _, heap_alloc_new _ _⟩ hb rfl)
          clear d0 d1 d2 d3 d4 v1 v2 hb n0 n1 n2
          obtain ⟨⟨⟨p0, p1, p2, p3, p4, p5⟩, ⟨s0, s1'⟩⟩, ⟨n2, n2a, n2b, n2c⟩, ⟨n3, n3a, n3b, n3c⟩⟩ := H5.out.facts
          unfold kindsV
          go_wp2_with fail
          refine wp_loop_rounds 5 ?_
          rw [rounds_succ]
          go_wp2_with fail
          rw [rounds_succ]
          go_wp2_with fail
          refine (KQ1.out _ _).mono ?_
          rintro e w6 ⟨rfl, hb⟩
          have H6 := Lib.hid (((H5.out.alloc _).alloc _).keep hb rfl)
          clear p0 p1 p2 p3 p4 p5 s0 s1' n2 n3 n2a n2b n2c n3a n3b n3c hb
          obtain ⟨⟨⟨p0, p1, p2, p3, p4, p5⟩, ⟨s0, s1'⟩⟩, ⟨n2, n2a, n2b, n2c⟩, ⟨n3, n3a, n3b, n3c⟩⟩ := H6.out.facts
          go_wp2_with fail
          rw [rounds_succ]
          go_wp2_with fail
          rw [rounds_succ]
          go_wp2_with fail
          rw [rounds_succ]
          go_wp2_with fail
          exact ⟨⟨i + 1, sum + 2, at_, by omega, by go_num, rfl, rfl, by omega, by omega, by omega, by omega, HTn.out, ((H6.out.tot.alloc _).alloc _)⟩, by simp [intOf]; omega⟩
        · obtain rfl : y = 0 := by omega
          rw [if_neg (by omega), if_neg (by omega), if_pos rfl] at hT
          have HTn := Lib.hid hT
          clear hT
          go_wp2_with fail
          refine (kinds_p _).mono ?_
          rintro e w5 ⟨rfl, hb⟩
          have H5 := Lib.hid (Tot5.keep ⟨HTA.out.alloc _, heap_alloc_new _ _⟩ hb rfl)
          clear d0 d1 d2 d3 d4 v1 v2 hb n0 n1 n2
          obtain ⟨⟨⟨p0, p1, p2, p3, p4, p5⟩, ⟨s0, s1'⟩⟩, ⟨n2, n2a, n2b, n2c⟩, ⟨n3, n3a, n3b, n3c⟩⟩ := H5.out.facts
          unfold kindsV
          go_wp2_with fail
          refine wp_loop_rounds 5 ?_
          rw [rounds_succ]
          go_wp2_with fail
          rw [rounds_succ]
          go_wp2_with fail
          rw [rounds_succ]
          go_wp2_with fail
          refine (KQ2.out _ _).mono ?_
          rintro e w6 ⟨rfl, hb⟩
          have H6 := Lib.hid ((((H5.out.alloc _).alloc _).alloc _).keep hb rfl)
          clear p0 p1 p2 p3 p4 p5 s0 s1' n2 n3 n2a n2b n2c n3a n3b n3c hb
          obtain ⟨⟨⟨p0, p1, p2, p3, p4, p5⟩, ⟨s0, s1'⟩⟩, ⟨n2, n2a, n2b, n2c⟩, ⟨n3, n3a, n3b, n3c⟩⟩ := H6.out.facts
          go_wp2_with fail
          rw [rounds_succ]
          go_wp2_with fail
          rw [rounds_succ]
          go_wp2_with fail
          exact ⟨⟨i + 1, sum + (s + 4), 0, by omega, by go_num, rfl, rfl, by omega, by omega, by omega, by omega, by rw [← Int.add_assoc]; exact HTn.out, (H6.out.tot.alloc _)⟩, by simp [intOf]; omega⟩
        · obtain rfl : y = 0 := by omega
          rw [if_pos rfl] at hT
          have HTn := Lib.hid hT
          clear hT
          go_wp2_with fail
          refine (kinds_p _).mono ?_
          rintro e w5 ⟨rfl, hb⟩
          have H5 := Lib.hid (Tot5.keep ⟨HTA.out.alloc _, heap_alloc_new _ _⟩ hb rfl)
          clear d0 d1 d2 d3 d4 v1 v2 hb n0 n1 n2
          obtain ⟨⟨⟨p0, p1, p2, p3, p4, p5⟩, ⟨s0, s1'⟩⟩, ⟨n2, n2a, n2b, n2c⟩, ⟨n3, n3a, n3b, n3c⟩⟩ := H5.out.facts
          unfold kindsV
          go_wp2_with fail
          refine wp_loop_rounds 5 ?_
          rw [rounds_succ]
          go_wp2_with fail
          rw [rounds_succ]
          go_wp2_with fail
          rw [rounds_succ]
          go_wp2_with fail
          rw [rounds_succ]
          go_wp2_with fail
          refine (KQ3.out _ _).mono ?_
          rintro e w6 ⟨rfl, hb⟩
          have H6 := Lib.hid (((((H5.out.alloc _).alloc _).alloc _).alloc _).keep hb rfl)
          clear p0 p1 p2 p3 p4 p5 s0 s1' n2 n3 n2a n2b n2c n3a n3b n3c hb
          obtain ⟨⟨⟨p0, p1, p2, p3, p4, p5⟩, ⟨s0, s1'⟩⟩, ⟨n2, n2a, n2b, n2c⟩, ⟨n3, n3a, n3b, n3c⟩⟩ := H6.out.facts
          go_wp2_with fail
          rw [rounds_succ]
          go_wp2_with fail
          go_ret2
          rw [HTn.out]
          exact ⟨rfl, H6.out.tot.plain.bel⟩
      · have hx : x = 1 := by omega
        subst hx
        rw [if_neg (by omega), if_neg (by omega), if_neg (by omega), if_neg hy] at hT
        have HTn := Lib.hid hT
        clear hT
        by_cases hy1 : 1000 < y
        · clear hy
          go_wp2_with fail
          exact ⟨⟨i + 1, sum, at_, by omega, by go_num, rfl, rfl, by omega, by omega, by omega, by omega, HTn.out, HTA.out.alloc _⟩, by simp [intOf]; omega⟩
        · have hy2 : l < at_ + y := by omega
          clear hy
          go_wp2_with fail
          exact ⟨⟨i + 1, sum, at_, by omega, by go_num, rfl, rfl, by omega, by omega, by omega, by omega, HTn.out, HTA.out.alloc _⟩, by simp [intOf]; omega⟩
    · obtain rfl : i = L.length := by omega
      rw [List.drop_length] at hT
      have HTn := Lib.hid hT
      clear hT
      go_wp2_with fail
      go_ret2
      rw [HTn.out]
      exact ⟨rfl, HTA.out.plain.bel⟩
end Go.Proofs.Ytdfofojlnkhjjaa
