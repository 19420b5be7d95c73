/- An element within another one; Within of both. -/
import Derived.Test.YtllkohjmghoipaaPaSub
import Derived.Test.YtllkohjmghoipaaPaChkR
import Derived.Test.YtllkohjmghoipaaPaSame
namespace Go.Proofs.Ytllkohjmghoipaa
open Go.RowKit Go.Sort

def subB (s t : CSet) : Bool := decide (s &&& ~~~t = 0#256)
def inE (x y : El) : Bool := (x.gap == y.gap) && subB x.cls y.cls && decide (y.low ≤ x.low) && decide (x.high ≤ y.high)
def inL : List El → List El → Bool
  | [], [] => true
  | x :: p, y :: q => inE x y && inL p q
  | _, _ => false
theorem inL_len : ∀ p q : List El, p.length ≠ q.length → inL p q = false
  | [], [], h => absurd rfl h
  | [], _ :: _, _ => rfl
  | _ :: _, [], _ => rfl
  | x :: p, y :: q, h => by
    show (inE x y && inL p q) = false
    rw [inL_len p q (fun e => h (by simp [e]))]; simp
theorem inL_drop {p q : List El} {k : Nat} (h1 : k < p.length) (h2 : k < q.length) : inL (p.drop k) (q.drop k) = (inE p[k] q[k] && inL (p.drop (k + 1)) (q.drop (k + 1))) := by
  rw [List.drop_eq_getElem_cons h1, List.drop_eq_getElem_cons h2]; rfl
def pairE (p q : List El) : Int := if (checkV p).2 = 0 then (checkV q).2 else (checkV p).2
def withinV (p q : List El) : Bool := if pairE p q = 0 then inL p q else false

set_option maxRecDepth 100000 in
set_option maxHeartbeats 4000000 in
theorem in_p (x y : El) (w : World) : Calls Try.prog 43 #[elW x, elW y] w fun e w' => e = .returned (.bool (inE x y)) ∧ Below w.heap.size w w' := by
  have M := Lib.hid (fun w => sub_p x.cls y.cls w)
  have hb0 : Below w.heap.size w ((w.alloc (.cells #[.bool x.gap, .int .u64 (word x.cls 0 : Int), .int .u64 (word x.cls 1 : Int), .int .u64 (word x.cls 2 : Int), .int .u64 (word x.cls 3 : Int), .int .i64 x.low, .int .i64 x.high] 47)).alloc (.cells #[.bool y.gap, .int .u64 (word y.cls 0 : Int), .int .u64 (word y.cls 1 : Int), .int .u64 (word y.cls 2 : Int), .int .u64 (word y.cls 3 : Int), .int .i64 y.low, .int .i64 y.high] 47)) :=
    ((Below.refl _ _).alloc (Nat.le_refl _) _).alloc (by simp) _
  have HB0 := Lib.hid hb0
  clear hb0
  have HI := Lib.hid (show inE x y = ((x.gap == y.gap) && subB x.cls y.cls && decide (y.low ≤ x.low) && decide (x.high ≤ y.high)) from rfl)
  unfold elW
  cases hg : (x.gap == y.gap)
  · have HD := Lib.hid (show inE x y = false by rw [HI.out, hg]; rfl)
    clear HI
    go_enter Try.func43, Try.ntmps43
    go_wp2_with fail
    go_ret
    exact ⟨by rw [HD.out]; rfl, HB0.out⟩
  · cases hs : subB x.cls y.cls
    · have HD := Lib.hid (show inE x y = false by rw [HI.out, hs]; simp)
      have hs' : decide (x.cls &&& ~~~y.cls = 0#256) = false := hs
      rw [hs'] at M
      clear HI hs hs'
      go_enter Try.func43, Try.ntmps43
      unfold setV setC at M
      go_wp2_with (go_at_call 44; refine (M.out _).mono ?_; rintro e w2 ⟨rfl, hb2⟩; have HB2 := Lib.hid (next HB0.out hb2); clear hb2)
      go_ret
      exact ⟨by rw [HD.out]; rfl, HB2.out⟩
    · have HD := Lib.hid (show inE x y = (decide (y.low ≤ x.low) && decide (x.high ≤ y.high)) by rw [HI.out, hg, hs]; simp)
      have hs' : decide (x.cls &&& ~~~y.cls = 0#256) = true := hs
      rw [hs'] at M
      clear HI hs hs'
      have HCX := Lib.hid (show ∀ w2, Below (w.heap.size + 1 + 1) ((w.alloc (.cells #[.bool x.gap, .int .u64 (word x.cls 0 : Int), .int .u64 (word x.cls 1 : Int), .int .u64 (word x.cls 2 : Int), .int .u64 (word x.cls 3 : Int), .int .i64 x.low, .int .i64 x.high] 47)).alloc (.cells #[.bool y.gap, .int .u64 (word y.cls 0 : Int), .int .u64 (word y.cls 1 : Int), .int .u64 (word y.cls 2 : Int), .int .u64 (word y.cls 3 : Int), .int .i64 y.low, .int .i64 y.high] 47)) w2 → w2.cell? ⟨w.heap.size, 5, none⟩ = some (.int .i64 x.low) ∧ w2.cell? ⟨w.heap.size, 6, none⟩ = some (.int .i64 x.high) ∧ w2.cell? ⟨w.heap.size + 1, 5, none⟩ = some (.int .i64 y.low) ∧ w2.cell? ⟨w.heap.size + 1, 6, none⟩ = some (.int .i64 y.high) from fun w2 hb2 => by
        have e0 := (hb2.block w.heap.size (by omega)).trans ((Below.heap_alloc _ _ _ (by simp)).trans (heap_alloc_new w _))
        have e1 := hb2.block (w.heap.size + 1) (by omega)
        have e2 := heap_alloc_new (w.alloc (.cells #[.bool x.gap, .int .u64 (word x.cls 0 : Int), .int .u64 (word x.cls 1 : Int), .int .u64 (word x.cls 2 : Int), .int .u64 (word x.cls 3 : Int), .int .i64 x.low, .int .i64 x.high] 47)) (.cells #[.bool y.gap, .int .u64 (word y.cls 0 : Int), .int .u64 (word y.cls 1 : Int), .int .u64 (word y.cls 2 : Int), .int .u64 (word y.cls 3 : Int), .int .i64 y.low, .int .i64 y.high] 47)
        rw [World.size_alloc] at e2
        exact ⟨cell_in e0 rfl, cell_in e0 rfl, cell_in (e1.trans e2) rfl, cell_in (e1.trans e2) rfl⟩)
      by_cases hl : y.low ≤ x.low
      · have HD2 := Lib.hid (show inE x y = decide (x.high ≤ y.high) by rw [HD.out, decide_eq_true hl]; rfl)
        clear HD
        by_cases hh : x.high ≤ y.high
        · have HD3 := Lib.hid (show inE x y = true by rw [HD2.out]; exact decide_eq_true hh)
          clear HD2
          go_enter Try.func43, Try.ntmps43
          unfold setV setC at M
          go_wp2_with (go_at_call 44; refine (M.out _).mono ?_; rintro e w2 ⟨rfl, hb2⟩; have HB2 := Lib.hid (next HB0.out hb2); obtain ⟨c0, c1, c2, c3⟩ := HCX.out w2 (hb2.mono (by simp)); clear hb2)
          go_ret
          exact ⟨by rw [HD3.out]; rfl, HB2.out⟩
        · have HD3 := Lib.hid (show inE x y = false by rw [HD2.out]; exact decide_eq_false hh)
          have hh' : decide (x.high ≤ y.high) = false := decide_eq_false hh
          clear HD2 hh
          go_enter Try.func43, Try.ntmps43
          unfold setV setC at M
          go_wp2_with (go_at_call 44; refine (M.out _).mono ?_; rintro e w2 ⟨rfl, hb2⟩; have HB2 := Lib.hid (next HB0.out hb2); obtain ⟨c0, c1, c2, c3⟩ := HCX.out w2 (hb2.mono (by simp)); clear hb2)
          go_ret
          exact ⟨by rw [HD3.out]; rfl, HB2.out⟩
      · have HD3 := Lib.hid (show inE x y = false by rw [HD.out, decide_eq_false hl]; rfl)
        clear HD
        go_enter Try.func43, Try.ntmps43
        unfold setV setC at M
        go_wp2_with (go_at_call 44; refine (M.out _).mono ?_; rintro e w2 ⟨rfl, hb2⟩; have HB2 := Lib.hid (next HB0.out hb2); obtain ⟨c0, c1, c2, c3⟩ := HCX.out w2 (hb2.mono (by simp)); clear hb2)
        go_ret
        exact ⟨by rw [HD3.out]; rfl, HB2.out⟩

set_option maxRecDepth 100000 in
set_option maxHeartbeats 4000000 in
theorem eqf_p (v u : Value) (p q : List El) (w : World) (h : Pats w v p) (hq : Pats w u q) (hm : p.length ≤ 1000) (hm' : q.length ≤ 1000) :
    Calls Try.prog 42 #[v, u, .func (.func 43) #[] #[]] w fun e w' => e = .returned (.bool (inL p q)) ∧ Below w.heap.size w w' := by
  obtain ⟨a, capa, rfl⟩ := Row.form2 h
  obtain ⟨b, capb, rfl⟩ := Row.form2 hq
  have HA := Lib.hid h
  have HB := Lib.hid hq
  clear h hq
  by_cases hl : p.length = q.length
  · have tl : ((p.length : Int) != (q.length : Int)) = false := by rw [hl]; simp
    have hl2 : p.length ≤ q.length := by omega
    have hl3 : q.length ≤ p.length := by omega
    clear hl
    go_enter Try.func42, Try.ntmps42
    go_wp2_with fail
    go_loopw [17] (fun iv wr => ∃ k : Nat, k ≤ p.length ∧ iv = .int .i64 (k : Nat) ∧ inL p q = inL (p.drop k) (q.drop k) ∧ Below w.heap.size w wr) (fun iv _ => p.length - (intOf iv).toNat)
    case atStart => exact ⟨0, by omega, rfl, rfl, Below.refl _ _⟩
    case round =>
      obtain ⟨k, hk, rfl, heq, hBl⟩ := hrel
      have HE := Lib.hid heq
      have HW := Lib.hid hBl
      clear heq hBl
      by_cases hlt : k < p.length
      · have hlt' : k < q.length := by omega
        obtain ⟨g, o, hga, hg, c0, c1, c2, c3, c4, c5, c6⟩ := Pats.at (Row.below HA.out HW.out) hlt
        obtain ⟨g2, o2, hgb, hg2, d0, d1, d2, d3, d4, d5, d6⟩ := Pats.at (Row.below HB.out HW.out) hlt'
        subst hga
        subst hgb
        have i1 : (0 : Int) ≤ (k : Int) := by omega
        have i2 : (k : Int) < (p.length : Int) := by omega
        have i3 : (k : Int) < (q.length : Int) := by omega
        have wi1 : IntKind.i64.wrap ((k : Int) + 1) = (k : Int) + 1 := IntWalk.i64_in _ (by omega)
        have HS := Lib.hid (inL_drop hlt hlt')
        have K := Lib.hid (fun w => in_p p[k] q[k] w)
        have hb0 : Below w.heap.size w ((wr.alloc (.cells (pcell p[k]).toArray 47)).alloc (.cells (pcell q[k]).toArray 47)) := (HW.out.alloc HW.out.size _).alloc (by have := HW.out.size; simp; omega) _
        have HB0 := Lib.hid hb0
        clear hb0
        generalize p[k] = x at *
        generalize q[k] = y at *
        unfold elW at K
        cases hi : inE x y
        · rw [hi] at K
          have HN := Lib.hid (show inL p q = false by rw [HE.out, HS.out, hi]; rfl)
          clear HE HS hi
          go_wp2_with fail
          refine (K.out _).mono ?_
          rintro e w2 ⟨rfl, hb2⟩
          have HB2 := Lib.hid (show Below w.heap.size w w2 from next HB0.out hb2)
          clear hb2 K c0 c1 c2 c3 c4 c5 c6 d0 d1 d2 d3 d4 d5 d6
          go_wp2_with fail
          go_ret
          exact ⟨by rw [HN.out]; rfl, HB2.out⟩
        · rw [hi] at K
          have HN := Lib.hid (show inL p q = inL (p.drop (k + 1)) (q.drop (k + 1)) by rw [HE.out, HS.out, hi]; rfl)
          clear HE HS hi
          go_wp2_with fail
          refine (K.out _).mono ?_
          rintro e w2 ⟨rfl, hb2⟩
          have HB2 := Lib.hid (show Below w.heap.size w w2 from next HB0.out hb2)
          clear hb2 K c0 c1 c2 c3 c4 c5 c6 d0 d1 d2 d3 d4 d5 d6
          go_wp2_with fail
          exact ⟨⟨k + 1, by omega, by go_num, HN.out, HB2.out⟩, by simp [intOf]; omega⟩
      · obtain rfl : p.length = k := by omega
        have i1 : ¬ ((p.length : Int) < (p.length : Int)) := by omega
        have HN := Lib.hid (show inL p q = true by rw [HE.out, List.drop_of_length_le (Nat.le_refl _), List.drop_of_length_le (by omega)]; rfl)
        go_wp2_with fail
        go_ret
        exact ⟨by rw [HN.out]; rfl, HW.out⟩
  · have tl : ((p.length : Int) != (q.length : Int)) = true := bne_iff_ne.2 (by omega)
    have HN := Lib.hid (inL_len p q hl)
    clear hl
    go_enter Try.func42, Try.ntmps42
    go_wp2_with fail
    go_ret
    exact ⟨by rw [HN.out]; rfl, Below.refl _ _⟩
end Go.Proofs.Ytllkohjmghoipaa
