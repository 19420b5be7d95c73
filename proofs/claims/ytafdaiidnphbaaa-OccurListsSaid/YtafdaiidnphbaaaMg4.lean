/- Texts that the claims share, part 4. -/
import Derived.Test.YtafdaiidnphbaaaMg1
import Derived.Test.YtafdaiidnphbaaaMg3
import Derived.Deep.AppendLies
import Derived.Lib.QuietBelow
import Derived.BigQuiet
import Derived.Lib.LazyBuf
import Derived.Deep.Onto

/- Sets of patterns: Check of both. -/
namespace Go.Proofs.Ytafdaiidnphbaaa
open Go.RowKit Go.Sort

/-- the first of the numbers from i on, n of them, at which an error stands -/
def firstN (e : Nat → Int) : Nat → Nat → Int × Int
  | _, 0 => (0, 0)
  | i, n + 1 => if e i ≠ 0 then ((i : Int), e i) else firstN e (i + 1) n
theorem firstN_step {e : Nat → Int} {i n : Nat} (h : e i = 0) : firstN e i (n + 1) = firstN e (i + 1) n := by
  show (if e i ≠ 0 then _ else _) = _
  rw [if_neg (by rw [h]; simp)]
theorem firstN_hit {e : Nat → Int} {i n : Nat} (h : e i ≠ 0) : firstN e i (n + 1) = ((i : Int), e i) := by
  show (if e i ≠ 0 then _ else _) = _
  rw [if_pos h]
theorem firstN_zero {e : Nat → Int} : ∀ n i, (firstN e i n).2 = 0 → ∀ j, i ≤ j → j < i + n → e j = 0
  | 0, i, _, j, h1, h2 => by omega
  | n + 1, i, h, j, h1, h2 => by
    by_cases h0 : e i = 0
    · rw [firstN_step h0] at h
      by_cases hj : j = i
      · subst hj; exact h0
      · exact firstN_zero n (i + 1) h j (by omega) (by omega)
    · rw [firstN_hit h0] at h
      exact absurd h h0
theorem firstN_none {e : Nat → Int} : ∀ n i, (∀ j, i ≤ j → j < i + n → e j = 0) → firstN e i n = (0, 0)
  | 0, _, _ => rfl
  | n + 1, i, h => by
    rw [firstN_step (h i (by omega) (by omega))]
    exact firstN_none n (i + 1) fun j h1 h2 => h j (by omega) (by omega)
def errS (L : List (List El)) (i : Nat) : Int := match L[i]? with | some p => (checkV p).2 | none => 0
theorem errS_at {L : List (List El)} {i : Nat} (h : i < L.length) : errS L i = (checkV L[i]).2 := by unfold errS; rw [List.getElem?_eq_getElem h]
def checkS (L : List (List El)) : Int × Int := if L.length = 0 then (0, 6) else if 16 < L.length then (0, 3) else firstN (errS L) 0 L.length
/-- a set with which nothing is wrong -/
structure OkS (L : List (List El)) : Prop where
  pos : 0 < L.length
  le : L.length ≤ 16
  pat : ∀ i (h : i < L.length), OkP L[i]
theorem okS_of {L : List (List El)} (h : (checkS L).2 = 0) : OkS L := by
  unfold checkS at h
  by_cases h1 : L.length = 0
  · rw [if_pos h1] at h; exact absurd h (by decide)
  · rw [if_neg h1] at h
    by_cases h2 : 16 < L.length
    · rw [if_pos h2] at h; exact absurd h (by decide)
    · rw [if_neg h2] at h
      exact ⟨by omega, by omega, fun i hi => okP_of (by rw [← errS_at hi]; exact firstN_zero _ 0 h i (by omega) (by omega))⟩
theorem OkS.check {L : List (List El)} (h : OkS L) : checkS L = (0, 0) := by
  unfold checkS
  rw [if_neg (by have := h.pos; omega), if_neg (by have := h.le; omega)]
  exact firstN_none _ _ fun j _ hj => by rw [errS_at (by omega), (h.pat j (by omega)).check]
theorem checkS_ok {L : List (List El)} (h : (checkS L).2 = 0) : checkS L = (0, 0) := (okS_of h).check

/-- a slice of patterns -/
def Sets (w : World) (v : Value) (L : List (List El)) : Prop := ∃ vs : List Value, vs.length = L.length ∧ Row w 1 v L.length vs ∧ ∀ (i : Nat) (h : i < L.length) (h' : i < vs.length), Pats w vs[i] L[i]
theorem Sets.below {w w' : World} {v : Value} {L : List (List El)} (h : Sets w v L) (hb : Below w.heap.size w w') : Sets w' v L := by
  obtain ⟨vs, h1, h2, h3⟩ := h
  exact ⟨vs, h1, Row.below h2 hb, fun i hi hi' => Row.below (h3 i hi hi') hb⟩
theorem Sets.form {w : World} {v : Value} {L : List (List El)} (h : Sets w v L) : ∃ a cap, v = .slice a L.length cap := by
  obtain ⟨vs, _, h2, _⟩ := h
  exact Row.form2 h2
theorem Sets.le {w : World} {v : Value} {L : List (List El)} (h : Sets w v L) : L.length ≤ maxLen := by
  obtain ⟨vs, _, h2, _⟩ := h
  exact h2.2.1
theorem Sets.at {w : World} {a : Option Addr} {n cap : Nat} {L : List (List El)} (h : Sets w (.slice a n cap) L) {i : Nat} (hi : i < L.length) : ∃ g o pa pc, a = some ⟨g, o, none⟩ ∧ g < w.heap.size ∧ w.cell? ⟨g, o + i, none⟩ = some (.slice pa L[i].length pc) ∧ Pats w (.slice pa L[i].length pc) L[i] := by
  obtain ⟨vs, h1, h2, h3⟩ := h
  obtain ⟨g, o, cp, e, hg, hc⟩ := Row.cellAt2 h2 hi (by omega)
  cases e
  have h0 := hc 0 (by omega)
  simp only [Nat.mul_one, Nat.add_zero] at h0
  have hi' : i < vs.length := by omega
  rw [List.getElem?_eq_getElem hi'] at h0
  have hp := h3 i hi hi'
  obtain ⟨pa, pc, hv⟩ := Row.form2 hp
  rw [hv] at h0 hp
  exact ⟨g, o, pa, pc, rfl, hg, h0, hp⟩

set_option maxRecDepth 100000 in
set_option maxHeartbeats 8000000 in
theorem checks_p (v : Value) (L : List (List El)) (w : World) (h : Sets w v L) :
    Calls Try.prog 28 #[v] w fun e w' => e = .returned (.tuple #[.int .i64 (checkS L).1, .int .i64 (checkS L).2]) ∧ Below w.heap.size w w' := by
  have HP := Lib.hid h
  have hmax : L.length ≤ maxLen := h.le
  unfold maxLen at hmax
  obtain ⟨a, cap, rfl⟩ := h.form
  clear h
  by_cases h0 : L.length = 0
  · have e : checkS L = (0, 6) := by unfold checkS; rw [if_pos h0]
    rw [e]
    have t0 : ((L.length : Int) == 0) = true := beq_iff_eq.2 (by omega)
    clear h0 e
    go_enter Try.func28, Try.ntmps28
    go_wp2_with fail
    go_ret2
    exact ⟨rfl, Below.refl _ _⟩
  · have t0 : ((L.length : Int) == 0) = false := beq_eq_false_iff_ne.2 (by omega)
    by_cases h1 : 16 < L.length
    · have e : checkS L = (0, 3) := by unfold checkS; rw [if_neg h0, if_pos h1]
      rw [e]
      have t1 : (16 : Int) < (L.length : Int) := by omega
      clear h0 h1 e
      go_enter Try.func28, Try.ntmps28
      go_wp2_with fail
      go_ret2
      exact ⟨rfl, Below.refl _ _⟩
    · have e : checkS L = firstN (errS L) 0 L.length := by unfold checkS; rw [if_neg h0, if_neg h1]
      have t1 : ¬ (16 : Int) < (L.length : Int) := by omega
      have hs : L.length ≤ 16 := by omega
      rw [e]
      clear h0 h1 e
      go_enter Try.func28, Try.ntmps28
      go_wp2_with fail
      go_loopw [18] (fun iv wr => ∃ i : Nat, i ≤ L.length ∧ iv = .int .i64 (i : Nat) ∧ firstN (errS L) 0 L.length = firstN (errS L) i (L.length - i) ∧ Below w.heap.size w wr) (fun iv _ => L.length - (intOf iv).toNat)
      case atStart => exact ⟨0, by omega, rfl, rfl, Below.refl _ _⟩
      case round =>
        obtain ⟨i, hi, rfl, hf, hB⟩ := hrel
        have HF := Lib.hid hf
        have HB := Lib.hid hB
        clear hf hB
        by_cases hlt : i < L.length
        · obtain ⟨g, o, pa, pc, hga, hg, d0, hp⟩ := (HP.out.below HB.out).at hlt
          subst hga
          have i1 : (0 : Int) ≤ (i : Int) := by omega
          have i2 : (i : Int) < (L.length : Int) := by omega
          have wi1 : IntKind.i64.wrap ((i : Int) + 1) = (i : Int) + 1 := IntWalk.i64_in _ (by omega)
          have K := Lib.hid (check_p _ _ wr hp)
          have HE := Lib.hid (errS_at hlt)
          by_cases hz : (checkV L[i]).2 = 0
          · have ON := Lib.hid (show firstN (errS L) 0 L.length = firstN (errS L) (i + 1) (L.length - (i + 1)) by rw [HF.out, show L.length - i = L.length - (i + 1) + 1 by omega, firstN_step (by rw [HE.out]; exact hz)])
            rw [checkV_ok hz] at K
            clear hz hp
            go_wp2_with fail
            refine K.out.mono ?_
            rintro e w1 ⟨rfl, hb1⟩
            have HB1 := Lib.hid (next HB.out hb1)
            clear hb1 K
            go_wp2_with fail
            exact ⟨⟨i + 1, by omega, by go_num, ON.out, HB1.out⟩, by simp [intOf]; omega⟩
          · have HIT := Lib.hid (show firstN (errS L) 0 L.length = ((i : Int), (checkV L[i]).2) by rw [HF.out, show L.length - i = L.length - (i + 1) + 1 by omega, firstN_hit (by rw [HE.out]; exact hz), HE.out])
            have tz : ((checkV L[i]).2 != 0) = true := bne_iff_ne.2 hz
            generalize (checkV L[i]).2 = E at *
            generalize (checkV L[i]).1 = E' at *
            clear hz hp
            go_wp2_with fail
            refine K.out.mono ?_
            rintro e w1 ⟨rfl, hb1⟩
            have HB1 := Lib.hid (next HB.out hb1)
            clear hb1 K
            go_wp2_with fail
            go_ret2
            exact ⟨by rw [HIT.out]; rfl, HB1.out⟩
        · obtain rfl : L.length = i := by omega
          have i1 : ¬ ((L.length : Int) < (L.length : Int)) := by omega
          have HH := Lib.hid (show firstN (errS L) 0 L.length = (0, 0) by rw [HF.out, Nat.sub_self]; rfl)
          go_wp2_with fail
          go_ret2
          exact ⟨by rw [HH.out]; rfl, HB.out⟩
set_option maxRecDepth 100000 in
set_option maxHeartbeats 8000000 in
theorem checks_r (v : Value) (L : List (List El)) (w : World) (h : Sets w v L) :
    Calls Try.prog 29 #[v] w fun e w' => e = .returned (.tuple #[.int .i64 (checkS L).1, .int .i64 (checkS L).2]) ∧ Below w.heap.size w w' := by
  have HP := Lib.hid h
  have hmax : L.length ≤ maxLen := h.le
  unfold maxLen at hmax
  obtain ⟨a, cap, rfl⟩ := h.form
  clear h
  by_cases h0 : L.length = 0
  · have e : checkS L = (0, 6) := by unfold checkS; rw [if_pos h0]
    rw [e]
    have t0 : ((L.length : Int) == 0) = true := beq_iff_eq.2 (by omega)
    clear h0 e
    go_enter Try.func29, Try.ntmps29
    go_wp2_with fail
    go_ret2
    exact ⟨rfl, Below.refl _ _⟩
  · have t0 : ((L.length : Int) == 0) = false := beq_eq_false_iff_ne.2 (by omega)
    by_cases h1 : 16 < L.length
    · have e : checkS L = (0, 3) := by unfold checkS; rw [if_neg h0, if_pos h1]
      rw [e]
      have t1 : (16 : Int) < (L.length : Int) := by omega
      clear h0 h1 e
      go_enter Try.func29, Try.ntmps29
      go_wp2_with fail
      go_ret2
      exact ⟨rfl, Below.refl _ _⟩
    · have e : checkS L = firstN (errS L) 0 L.length := by unfold checkS; rw [if_neg h0, if_neg h1]
      have t1 : ¬ (16 : Int) < (L.length : Int) := by omega
      have hs : L.length ≤ 16 := by omega
      rw [e]
      clear h0 h1 e
      go_enter Try.func29, Try.ntmps29
      go_wp2_with fail
      go_loopw [4] (fun iv wr => ∃ i : Nat, i ≤ L.length ∧ iv = .int .i64 (i : Nat) ∧ firstN (errS L) 0 L.length = firstN (errS L) i (L.length - i) ∧ Below w.heap.size w wr) (fun iv _ => L.length - (intOf iv).toNat)
      case atStart => exact ⟨0, by omega, rfl, rfl, Below.refl _ _⟩
      case round =>
        obtain ⟨i, hi, rfl, hf, hB⟩ := hrel
        have HF := Lib.hid hf
        have HB := Lib.hid hB
        clear hf hB
        by_cases hlt : i < L.length
        · obtain ⟨g, o, pa, pc, hga, hg, d0, hp⟩ := (HP.out.below HB.out).at hlt
          subst hga
          have i1 : (0 : Int) ≤ (i : Int) := by omega
          have i2 : (i : Int) < (L.length : Int) := by omega
          have wi1 : IntKind.i64.wrap ((i : Int) + 1) = (i : Int) + 1 := IntWalk.i64_in _ (by omega)
          have K := Lib.hid (check_r _ _ wr hp)
          have HE := Lib.hid (errS_at hlt)
          by_cases hz : (checkV L[i]).2 = 0
          · have ON := Lib.hid (show firstN (errS L) 0 L.length = firstN (errS L) (i + 1) (L.length - (i + 1)) by rw [HF.out, show L.length - i = L.length - (i + 1) + 1 by omega, firstN_step (by rw [HE.out]; exact hz)])
            rw [checkV_ok hz] at K
            clear hz hp
            go_wp2_with fail
            refine K.out.mono ?_
            rintro e w1 ⟨rfl, hb1⟩
            have HB1 := Lib.hid (next HB.out hb1)
            clear hb1 K
            go_wp2_with fail
            exact ⟨⟨i + 1, by omega, by go_num, ON.out, HB1.out⟩, by simp [intOf]; omega⟩
          · have HIT := Lib.hid (show firstN (errS L) 0 L.length = ((i : Int), (checkV L[i]).2) by rw [HF.out, show L.length - i = L.length - (i + 1) + 1 by omega, firstN_hit (by rw [HE.out]; exact hz), HE.out])
            have tz : ((checkV L[i]).2 != 0) = true := bne_iff_ne.2 hz
            generalize (checkV L[i]).2 = E at *
            generalize (checkV L[i]).1 = E' at *
            clear hz hp
            go_wp2_with fail
            refine K.out.mono ?_
            rintro e w1 ⟨rfl, hb1⟩
            have HB1 := Lib.hid (next HB.out hb1)
            clear hb1 K
            go_wp2_with fail
            go_ret2
            exact ⟨by rw [HIT.out]; rfl, HB1.out⟩
        · obtain rfl : L.length = i := by omega
          have i1 : ¬ ((L.length : Int) < (L.length : Int)) := by omega
          have HH := Lib.hid (show firstN (errS L) 0 L.length = (0, 0) by rw [HF.out, Nat.sub_self]; rfl)
          go_wp2_with fail
          go_ret2
          exact ⟨by rw [HH.out]; rfl, HB.out⟩
end Go.Proofs.Ytafdaiidnphbaaa

/- All of occur. -/
namespace Go.Proofs.Ytafdaiidnphbaaa
open Go.RowKit Go.Sort
attribute [local go_sem] Oper.semAt_some

/-- what takes over the deferred calls of a loop's rounds, of which there are none -/
def mark (D : Nat) : Deferred := { target := .collected D, args := #[] }
structure Marks (ds : List Deferred) (Ds : List Nat) (W : World) : Prop where
  eq : ds = Ds.map mark
  nd : Ds.Nodup
  at' : ∀ D ∈ Ds, W.heap[D]? = some (.deferred (some []))
theorem Marks.lt {ds : List Deferred} {Ds : List Nat} {W : World} (h : Marks ds Ds W) : ∀ D ∈ Ds, D < W.heap.size := fun D hD => (Array.getElem?_eq_some_iff.1 (h.at' D hD)).1
theorem Marks.keep {ds : List Deferred} {Ds : List Nat} {W W' : World} (h : Marks ds Ds W) (hk : ∀ k, k < W.heap.size → (∃ o : Obj, W.heap[k]? = some o ∧ o.isCells = false) → W'.heap[k]? = W.heap[k]?) : Marks ds Ds W' :=
  ⟨h.eq, h.nd, fun D hD => (hk D (h.lt D hD) ⟨_, h.at' D hD, rfl⟩).trans (h.at' D hD)⟩
theorem Marks.below {ds : List Deferred} {Ds : List Nat} {W W' : World} (h : Marks ds Ds W) (hb : Below W.heap.size W W') : Marks ds Ds W' := h.keep fun k hk _ => hb.block k hk
theorem marks_own {ds : List Deferred} {Ds : List Nat} {B : Nat} (hB : ∀ D ∈ Ds, D < B) : OwnFrom B (fun (_ : List Nat) W => Marks ds Ds W) := fun _ A _ row hs hg hr =>
  ⟨hs.eq, hs.nd, fun D hD => (hg.block D (hs.lt D hD) (fun e => by have := (hr D e.symm).1; have := hB D hD; omega)).trans (hs.at' D hD)⟩
theorem kbool_appended {W w1 : World} {n₀ B : Nat} {t e : TypeId} {size : Nat} {v v' : Value} {k : Nat} {xs : List Value} {tmp : Obj} (hv : Boxed W B t v) (ht : t ≠ 4) (he : e ≠ 4) (hrow : W.ownsRow n₀ e size v k xs) (hgrow : (W.alloc tmp).grownBy w1 v.ownBlock) :
    KBool W (w1.setCell ⟨B, 0, none⟩ v') := fun j cs fr hj => by
  have hlt := (Array.getElem?_eq_some_iff.1 hj).1
  have hjB : j ≠ B := by
    rintro rfl
    rw [show W.heap[j]? = _ from hv] at hj
    cases hj
    exact ht rfl
  have hjo : some j ≠ v.ownBlock := by
    rcases hrow.2 with ⟨rfl, _⟩ | ⟨g, cap, cur, rfl, _, hgb, _⟩
    · simp [Value.ownBlock]
    · intro e'
      obtain rfl : j = g := by simpa [Value.ownBlock] using e'
      rw [hgb] at hj
      cases hj
      exact he rfl
  rw [Below.heap_setCell _ _ _ _ hjB, hgrow.block j (by simp; omega) hjo, Below.heap_alloc _ _ _ hlt]
  exact hj
theorem leaves_marks {n : Nat} {fn : Func} {tmps : Array Value} {R : Ending → World → Prop} : ∀ (Ds : List Nat) (W : World) (B : Nat), Ds.Nodup → (∀ D ∈ Ds, B ≤ D ∧ W.heap[D]? = some (.deferred (some []))) →
    (∀ W', Below B W W' → (∀ (k : Nat) (o : Obj), W.heap[k]? = some o → o.isCells = true → W'.heap[k]? = some o) → ∃ v, (results fn tmps).run Try.prog W' = .ok v W' ∧ R (.returned v) W') →
    LeavesInM Fence.wide n Try.prog fn tmps R (Ds.map mark) .returning W
  | [], W, B, _, _, h => by
    obtain ⟨v, h1, h2⟩ := h W (Below.refl _ _) (fun _ _ h _ => h)
    exact ⟨v, h1, h2⟩
  | D :: Ds, W, B, hnd, hD, h => by
    obtain ⟨hB, hK⟩ := hD D (by simp)
    have hnd' := List.nodup_cons.1 hnd
    refine ⟨by simp, .inl ⟨D, _, rfl, run_takeDeferred hK, ?_⟩⟩
    have hbel : Below B W (W.putObj D (.deferred none)) := (Below.refl B W).grown (grownBy_putObj' W D _) (Nat.le_trans hB (Nat.le_of_lt (Array.getElem?_eq_some_iff.1 hK).1)) (fun k e => by cases e; exact hB)
    refine leaves_marks Ds _ B hnd'.2 (fun D' hD' => ?_) (fun W' hb hc => h W' (hbel.trans hb) (fun k o hk ho => ?_))
    · obtain ⟨h1, h2⟩ := hD D' (by simp [hD'])
      refine ⟨h1, (World.putObj_heap_other ?_).trans h2⟩
      rintro rfl
      exact hnd'.1 hD'
    · refine hc k o ((World.putObj_heap_other ?_).trans hk) ho
      rintro rfl
      rw [hK] at hk
      cases hk
      cases ho

def endsH (L : List (List El)) (b : List UInt8) (i : Nat) : List Hit := match L[i]? with | some p => (endsV p b).map fun (e : Nat) => ((e : Int), (i : Int)) | none => []
def rawTo (L : List (List El)) (b : List UInt8) (k : Nat) : List Hit := (List.range k).flatMap (endsH L b)
theorem rawTo_succ (L : List (List El)) (b : List UInt8) (k : Nat) : rawTo L b (k + 1) = rawTo L b k ++ endsH L b k := by simp [rawTo, List.range_succ]
theorem endsH_at {L : List (List El)} {b : List UInt8} {i : Nat} (h : i < L.length) : endsH L b i = (endsV L[i] b).map fun (e : Nat) => ((e : Int), (i : Int)) := by unfold endsH; rw [List.getElem?_eq_getElem h]
theorem hcells_append (l m : List Hit) : hcells (l ++ m) = hcells l ++ hcells m := by simp [hcells]
theorem endsV_len (p : List El) (b : List UInt8) : (endsV p b).length ≤ b.length + 1 := by
  unfold endsV
  exact Nat.le_trans (List.length_filter_le _ _) (by simp)
theorem rawTo_len (L : List (List El)) (b : List UInt8) : ∀ k, (rawTo L b k).length ≤ k * (b.length + 1)
  | 0 => by simp [rawTo]
  | k + 1 => by
    rw [rawTo_succ, List.length_append, Nat.add_mul, Nat.one_mul]
    have := rawTo_len L b k
    have h2 : (endsH L b k).length ≤ b.length + 1 := by
      unfold endsH
      cases L[k]? with
      | none => simp
      | some p => simpa using endsV_len p b
    omega
def RR (L : List (List El)) (b : List UInt8) (i : Nat) (pre : List Nat) : List Hit := rawTo L b i ++ pre.map fun (e : Nat) => ((e : Int), (i : Int))
theorem RR_snoc (L : List (List El)) (b : List UInt8) (i : Nat) (pre : List Nat) (x : Nat) : RR L b i (pre ++ [x]) = RR L b i pre ++ [((x : Int), (i : Int))] := by simp [RR]
theorem RR_len (L : List (List El)) (b : List UInt8) (i : Nat) (pre : List Nat) : (RR L b i pre).length ≤ i * (b.length + 1) + pre.length := by
  unfold RR
  rw [List.length_append, List.length_map]
  have := rawTo_len L b i
  omega
theorem RR_end {L : List (List El)} {b : List UInt8} {i : Nat} (h : i < L.length) : RR L b i (endsV L[i] b) = rawTo L b (i + 1) := by
  unfold RR
  rw [rawTo_succ, endsH_at h]
theorem hcells_snoc (l : List Hit) (x : Hit) : hcells (l ++ [x]) = hcells l ++ hcell x := by simp [hcells]
def allE (L : List (List El)) (b : List UInt8) : Int := if (checkS L).2 ≠ 0 then (checkS L).2 else if 4096 < b.length then 3 else 0
def allV (L : List (List El)) (b : List UInt8) : List Hit := if allE L b = 0 then sortH (rawTo L b L.length) else []
/-- hits freshly made, and an error's number -/
def HitsP (w : World) (l : List Hit) (x : Int) (e : Ending) (w' : World) : Prop := ∃ v, e = .returned (.tuple #[v, .int .i64 x]) ∧ w'.ownsRow w.heap.size 38 2 v l.length (hcells l) ∧ Below w.heap.size w w'
theorem infoHit : (Try.prog.info? 38).map (fun i => (i.zero, i.size, i.bytes)) = some (some (.agg #[.int .i64 0, .int .i64 0]), 2, 16) := by kernel_rfl
set_option maxRecDepth 100000 in
set_option maxHeartbeats 8000000 in
theorem all_p (v u : Value) (L : List (List El)) (b : List UInt8) (w : World) (h : Sets w v L) (hb : Bytes w u b) :
    Calls Try.prog 14 #[v, u] w (HitsP w (allV L b) (allE L b)) := by
  have KS := Lib.hid (checks_p v L w h)
  have HS := Lib.hid h
  have HBy := Lib.hid hb
  have HV := Lib.hid (show allV L b = if allE L b = 0 then sortH (rawTo L b L.length) else [] from rfl)
  obtain ⟨a, cap, rfl⟩ := h.form
  obtain ⟨ua, ucap, rfl⟩ := Row.form2 hb
  clear h hb
  refine callsIn_wide.1 (callsIn_of_wp_marks (n := 5) Try.func14 rfl trivial (wpIn_wide.2 ?_) rfl)
  simp only [Try.ntmps14, List.size_toArray, List.length_cons, List.length_nil, Nat.reduceAdd, Nat.reduceSub, Array.replicate_succ, Array.replicate_zero, List.push_toArray, List.append_toArray, List.nil_append, List.cons_append]
  by_cases h0 : (checkS L).2 = 0
  · have hok := okS_of h0
    rw [checkS_ok h0] at KS
    by_cases hl : 4096 < b.length
    · have HE := Lib.hid (show allE L b = 3 by unfold allE; rw [if_neg (by rw [h0]; simp), if_pos hl])
      have HV2 := Lib.hid (show allV L b = [] by rw [HV.out, if_neg (by rw [HE.out]; decide)])
      clear h0 hok
      go_wp2_with fail
      refine KS.out.mono ?_
      rintro e w1 ⟨rfl, hb1⟩
      have HB1 := Lib.hid hb1
      clear hb1 KS
      go_wp2_with fail
      exact ⟨_, results_tmp2 rfl _ _ _, show HitsP _ _ _ _ _ from (by rw [HE.out, HV2.out]; exact ⟨_, rfl, World.ownsRow_nil _ _ _ _, HB1.out⟩)⟩
    · have HE := Lib.hid (show allE L b = 0 by unfold allE; rw [if_neg (by rw [h0]; simp), if_neg hl])
      have HV2 := Lib.hid (show allV L b = sortH (rawTo L b L.length) by rw [HV.out, if_pos HE.out])
      have HOK := Lib.hid hok
      have hle := hok.le
      clear h0 hok
      go_wp2_with fail
      refine KS.out.mono ?_
      rintro e w1 ⟨rfl, hb1⟩
      have HB1 := Lib.hid hb1
      clear hb1 KS
      go_wp2_with fail
      have bO := Boxed.new w1 34 (.slice none 0 0)
      have hb2 : Below w.heap.size w (w1.alloc (.cells #[.slice none 0 0] 34)) := HB1.out.alloc HB1.out.size _
      have hw1 : w.heap.size ≤ w1.heap.size := HB1.out.size
      obtain ⟨j0, hj, hy0, hy1, hy2⟩ := info_parts infoHit
      refine wp_loop (fun a' wr => ∃ (i : Nat) (s9 s10 s26 s27 s28 s29 s30 s31 s32 s40 : Value) (ds : List Deferred) (Ds : List Nat), a' =
        { tmps := #[.slice a L.length cap, .slice ua b.length ucap, undef, undef, .slice none 0 0, .int .i64 0, .int .i64 0, .int .i64 0, .pointer (some ⟨w1.heap.size, 0, none⟩), s9, s10, undef,
            .tuple #[.int .i64 0, .int .i64 0], .slice a L.length cap, .tuple #[.int .i64 0, .int .i64 0], .int .i64 0, .int .i64 0, .int .i64 0, .bool false, undef, .slice ua b.length ucap, .int .i64 (b.length : Int), .bool (decide (4096 < (b.length : Int))), .slice a L.length cap,
            .int .i64 (L.length : Int), .int .i64 (i : Int), s26, s27, s28, s29, s30, s31, s32, undef, undef, undef, undef, undef, undef, undef, s40, undef, undef, undef], defers := ds } ∧
        i ≤ L.length ∧ (Marks ds Ds wr ∧ ∀ D ∈ Ds, w.heap.size ≤ D) ∧ (∃ vo, Boxed wr w1.heap.size 34 vo ∧ wr.ownsRow w.heap.size 38 2 vo (rawTo L b i).length (hcells (rawTo L b i))) ∧ Below w.heap.size w wr)
        (fun a' _ => L.length - (intOf (a'.tmps.getD 25 undef)).toNat) ?start ?round
      case start => exact ⟨0, undef, undef, undef, undef, undef, undef, undef, undef, undef, undef, [], [], rfl, by omega, ⟨⟨rfl, List.nodup_nil, fun D hD => by cases hD⟩, fun D hD => by cases hD⟩, ⟨_, bO, World.ownsRow_nil _ _ _ _⟩, hb2⟩
      case round =>
        rintro a' wr ⟨i, s9, s10, s26, s27, s28, s29, s30, s31, s32, s40, ds, Ds, rfl, hi, ⟨hM, hMl⟩, ⟨vo, hv, hrow⟩, hB⟩
        have HM := Lib.hid hM
        have HMl := Lib.hid hMl
        have HVo := Lib.hid hv
        have HRow := Lib.hid hrow
        have HB := Lib.hid hB
        have i0 : (0 : Int) ≤ (i : Int) := by omega
        by_cases hlt : i < L.length
        · obtain ⟨g, o, pa, pc, hga, hg, d0, hp⟩ := (HS.out.below HB.out).at hlt
          subst hga
          have i2 : (i : Int) < (L.length : Int) := by omega
          have wi1 : IntKind.i64.wrap ((i : Int) + 1) = (i : Int) + 1 := IntWalk.i64_in _ (by omega)
          have HPa := Lib.hid hp
          clear hM hMl hv hrow hB hp
          go_wp2_with fail
          refine (ends_p _ _ _ ⟨_, _, _, rfl⟩ ⟨_, _, _, rfl⟩).mono ?_
          rintro e w3 ⟨rfl, hw3⟩
          have hsz : w3.heap.size = wr.heap.size + 1 + 1 + 1 := by rw [hw3]; simp
          have b1 : Below wr.heap.size wr (wr.alloc (.cells #[.int .i64 (i : Int)] 3)) := (Below.refl _ _).alloc (Nat.le_refl _) _
          have b3 : Below wr.heap.size wr w3 := by rw [hw3]; exact (b1.alloc (by simp) _).alloc (by simp; omega) _
          have bxi : Boxed w3 wr.heap.size 3 (.int .i64 (i : Int)) := by rw [hw3]; exact ((Boxed.new wr _ _).alloc _).alloc _
          have hcp : w3.cell? ⟨wr.heap.size + 1, 0, none⟩ = some (.slice pa L[i].length pc) := by
            have := (Boxed.new (wr.alloc (.cells #[.int .i64 (i : Int)] 3)) 22 (.slice pa L[i].length pc)).alloc (.cells #[.slice ua b.length ucap] 23)
            rw [World.size_alloc] at this
            rw [hw3]; exact this.cell
          have hcb : w3.cell? ⟨wr.heap.size + 1 + 1, 0, none⟩ = some (.slice ua b.length ucap) := by
            have := Boxed.new ((wr.alloc (.cells #[.int .i64 (i : Int)] 3)).alloc (.cells #[.slice pa L[i].length pc] 22)) 23 (.slice ua b.length ucap)
            rw [World.size_alloc, World.size_alloc] at this
            rw [hw3]; exact this.cell
          have hv3 : Boxed w3 w1.heap.size 34 vo := by rw [hw3]; exact ((HVo.out.alloc _).alloc _).alloc _
          have hrow3 : w3.ownsRow w.heap.size 38 2 vo (rawTo L b i).length (hcells (rawTo L b i)) := by rw [hw3]; exact ((HRow.out.alloc _).alloc _).alloc _
          have HSeq := Lib.hid (ends_stops 4 (wr.heap.size + 1 + 1) (wr.heap.size + 1) (by omega) (.slice pa L[i].length pc) (.slice ua b.length ucap) L[i] b w3 (Row.below HPa.out b3) (Row.below HBy.out (HB.out.trans (b3.mono HB.out.size))) (HOK.out.pat i hlt) (by omega) hcb hcp)
          have hbw : Below w.heap.size w w3 := HB.out.trans (b3.mono HB.out.size)
          have hM3 : Marks ds Ds w3 := HM.out.below b3
          have hDl : ∀ D ∈ Ds, D < w3.heap.size := hM3.lt
          have hwr : w.heap.size ≤ wr.heap.size := HB.out.size
          clear hw3 hcp hcb b1 d0
          rw [World.size_alloc]
          go_wp2_with fail
          refine (wpIn_wide (n := 5)).1 ?_
          refine wpIn_rangeFunc_ownG rfl (by decide) (gf := 59) (lb := #[.pointer (some ⟨wr.heap.size + 1 + 1, 0, none⟩), .pointer (some ⟨wr.heap.size + 1, 0, none⟩)]) rfl trivial (enters_of Try.func59 (by kernel_rfl) rfl)
            HSeq.out KBool.trans (fun W l o o' _ h1 h2 _ => KBool.putObj W l o o' h1 h2) (Below.refl _ _) (fun _ => rfl)
            (fun pre W => (∃ v, Boxed W w1.heap.size 34 v ∧ W.ownsRow w.heap.size 38 2 v (RR L b i pre).length (hcells (RR L b i pre)) ∧ True) ∧ (Boxed W wr.heap.size 3 (.int .i64 (i : Int)) ∧ Marks ds Ds W) ∧ Below w.heap.size w W)
            (fun _ _ _ => False)
            (OwnFrom.and (Own.from (holdsRow_own w.heap.size w1.heap.size 34 38 2 (fun pre => (RR L b i pre).length) (fun pre => hcells (RR L b i pre)) (fun _ _ => True)) _) (OwnFrom.and (OwnFrom.and (Own.from (boxed_own _ _ _) _) (marks_own hDl)) (ownFrom_below (Nat.le_refl _) (by omega))))
            (fun _ _ _ _ _ hs _ _ => hs)
            ⟨⟨vo, hv3, by simpa [RR] using hrow3, trivial⟩, ⟨bxi, hM3⟩, hbw⟩
            (fun (x : Nat) => { tmps := #[.slice (some ⟨g, o, none⟩) L.length cap, .slice ua b.length ucap, undef, undef, .slice none 0 0, .int .i64 0, .int .i64 0, .int .i64 0, .pointer (some ⟨w1.heap.size, 0, none⟩), .pointer (some ⟨wr.heap.size, 0, none⟩), .slice pa L[i].length pc, .int .i64 (x : Int),
              .tuple #[.int .i64 0, .int .i64 0], .slice (some ⟨g, o, none⟩) L.length cap, .tuple #[.int .i64 0, .int .i64 0], .int .i64 0, .int .i64 0, .int .i64 0, .bool false, undef, .slice ua b.length ucap, .int .i64 (b.length : Int), .bool (decide (4096 < (b.length : Int))), .slice (some ⟨g, o, none⟩) L.length cap,
              .int .i64 (L.length : Int), .int .i64 (i : Int), .bool true, .int .i64 (i : Int), .pointer (some ⟨g, o + i, none⟩), .slice pa L[i].length pc, .slice pa L[i].length pc, .slice ua b.length ucap, .func (.func 59) #[] #[.pointer (some ⟨wr.heap.size + 1 + 1, 0, none⟩), .pointer (some ⟨wr.heap.size + 1, 0, none⟩)],
              .int .i64 (x : Int), undef, undef, undef, undef, undef, undef, s40, undef, undef, undef], defers := [] }) ?assign ?body ?done ?stop
          case assign =>
            intro l x W K hK
            gi_wp2
            exact hK
          case body =>
            rintro l pre x W ⟨⟨v, hv, hrow, -⟩, ⟨hbi, hM⟩, hB⟩ hlen
            have hc := hv.cell
            have hci := hbi.cell
            have hRl : (RR L b i pre).length + 1 ≤ 100000 := by
              have h1 := RR_len L b i pre
              have h2 := endsV_len L[i] b
              have h3 : i * (b.length + 1) ≤ 16 * 4097 := Nat.mul_le_mul (by omega) (by omega)
              omega
            gi_wp2_with (gi_at_builtin; refine wpListIn_append_own _ rfl _ _ 34 rfl w.heap.size 38 j0 _ 2 16 Try.underlying34 hj hy0 hy1 hy2 rfl (by decide) _ _ _ rfl (hrow.alloc _) ⟨W.heap.size, 0, none⟩ 1 1 (hcell ((x : Int), (i : Int))) rfl rfl (World.news_of_block (cs := #[.int .i64 (x : Int), .int .i64 (i : Int)]) (t := 38) (fr := (0, 0)) (heap_alloc_new W _)) (hcell_one _) (by unfold maxLen; omega) (by omega) (by have := hB.size; simp; omega) ?_; intro v' w5 hown' hgrow _; obtain ⟨g', cap', rfl⟩ := ownsRow_succ hown'; obtain ⟨hv1, hv2, hr2, hk2, hb2⟩ := hv.appended (by decide) hrow hB.size hw1 hown' hgrow; have hkb := fun v'' => kbool_appended (v' := v'') hv (by decide) (by decide) hrow hgrow; have hbi2 := (hbi.alloc _).kept hgrow (hbi.not_row (by decide) hrow); have hc1 := hv1.cell; have hf1 := hv1.frozen)
            refine ⟨hk2.from _, hkb _, ⟨⟨_, hv2, ?_, trivial⟩, ⟨hbi2.other ?_ _, ⟨hM.eq, hM.nd, fun D hD => hk2.same D _ (hM.at' D hD) rfl⟩⟩, hB.trans hb2⟩⟩
            · rw [RR_snoc, hcells_snoc, List.length_append, List.length_singleton]
              exact hr2
            · have := HVo.out.lt
              omega
          case done =>
            rintro D xs W hD rfl ⟨⟨v, hv, hrow, -⟩, ⟨hbi, hM⟩, hB⟩ hK
            rw [RR_end hlt] at hrow
            have HD := Lib.hid hK
            have HM' := Lib.hid hM
            have HR' := Lib.hid hrow
            have HV' := Lib.hid hv
            have HB' := Lib.hid hB
            clear hK hM hrow hv hB hbi
            go_wp2_with fail
            refine ⟨⟨i + 1, _, _, _, _, _, _, _, _, _, _, _, D :: Ds, rfl, by omega, ⟨⟨by rw [HM'.out.eq]; rfl, List.nodup_cons.2 ⟨fun hm => by have := hDl D hm; omega, HM'.out.nd⟩, fun D' hD' => ?_⟩, fun D' hD' => ?_⟩, ⟨_, HV'.out, HR'.out⟩, HB'.out⟩, ?_⟩
            · rcases List.mem_cons.1 hD' with rfl | h
              · exact HD.out
              · exact HM'.out.at' D' h
            · rcases List.mem_cons.1 hD' with rfl | h
              · omega
              · exact HMl.out D' h
            · simp [intOf]; omega
          case stop =>
            rintro D c pre W _ _ h _
            exact h.elim
        · obtain rfl : L.length = i := by omega
          have i1 : ¬ (L.length : Int) < (L.length : Int) := by omega
          have hRl : (rawTo L b L.length).length ≤ 1000000 := by
            have h1 := rawTo_len L b L.length
            have h3 : L.length * (b.length + 1) ≤ 16 * 4097 := Nat.mul_le_mul (by omega) (by omega)
            omega
          have hlen := sortH_len (rawTo L b L.length)
          have HLen := Lib.hid hlen
          clear hlen
          have c0 := hv.cell
          have hfin : ∀ (W : World) (vr : Value), W.ownsRow w.heap.size 38 2 vr (sortH (rawTo L b L.length)).length (hcells (sortH (rawTo L b L.length))) → Below w.heap.size w W → Marks ds Ds W → ∀ W', Below w.heap.size W W' → (∀ (k : Nat) (o : Obj), W.heap[k]? = some o → o.isCells = true → W'.heap[k]? = some o) → HitsP w (allV L b) (allE L b) (.returned (.tuple #[vr, .int .i64 0])) W' := fun W vr h1 h2 _ W' hb hc => by
            rw [HE.out, HV2.out]
            refine ⟨vr, rfl, ⟨h1.1, ?_⟩, h2.trans hb⟩
            rcases h1.2 with h0 | ⟨g, cp, cur, rfl, hb0, hg, r⟩
            · exact .inl h0
            · exact .inr ⟨g, cp, cur, rfl, hb0, hc g _ hg rfl, r⟩
          have HF := Lib.hid hfin
          clear hfin
          rcases hrow.2 with ⟨rfl, h0⟩ | ⟨g, cp, cur, rfl, hgb, hgh, _⟩
          · have hnil : rawTo L b L.length = [] := List.eq_nil_of_length_eq_zero h0
            have hso : sortH (rawTo L b L.length) = [] := by rw [hnil]; simp [sortH]
            clear hM hMl hv hrow hB
            go_wp2_with fail
            refine (sort_none _ _ _).mono ?_
            rintro e w6 ⟨rfl, rfl⟩
            go_wp2_with fail
            have e := HM.out.eq
            subst e
            exact leaves_marks Ds w6 w.heap.size HM.out.nd (fun D hD => ⟨HMl.out D hD, HM.out.at' D hD⟩) (fun W' hb hc => ⟨_, results_tmp2 rfl _ _ _, HF.out w6 _ (by rw [hso]; exact World.ownsRow_nil _ _ _ _) HB.out HM.out W' hb hc⟩)
          · have K := Lib.hid (sort_p g (rawTo L b L.length).length cp w.heap.size (rawTo L b L.length) wr hrow rfl hRl)
            clear hM hMl hv hrow hB
            go_wp2_with fail
            refine K.out.mono ?_
            rintro e w6 ⟨rfl, ho6, hg6⟩
            have hne : w1.heap.size ≠ g := fun e => by
              have h1 := HVo.out
              rw [e] at h1
              rw [show wr.heap[g]? = _ from h1] at hgh
              cases hgh
            have hv6 := HVo.out.kept hg6 (fun e => hne (by cases e; rfl))
            have c6 := hv6.cell
            have HM6 := Lib.hid (HM.out.keep (fun k hk ⟨o, ho, hoc⟩ => hg6.block k hk (fun e => by cases e; rw [hgh] at ho; cases ho; cases hoc)))
            have HO6 := Lib.hid ho6
            have HB6 := Lib.hid (HB.out.grown hg6 HB.out.size (fun k e => by cases e; exact hgb))
            clear ho6 hg6 c0 hgh
            go_wp2_with fail
            have e := HM6.out.eq
            subst e
            exact leaves_marks Ds w6 w.heap.size HM6.out.nd (fun D hD => ⟨HMl.out D hD, HM6.out.at' D hD⟩) (fun W' hb hc => ⟨_, results_tmp2 rfl _ _ _, HF.out w6 _ (by rw [HLen.out]; exact HO6.out) HB6.out HM6.out W' hb hc⟩)
  · have HE := Lib.hid (show allE L b = (checkS L).2 by unfold allE; rw [if_pos h0])
    have HV2 := Lib.hid (show allV L b = [] by rw [HV.out, if_neg (by rw [HE.out]; exact h0)])
    have t1 : ((checkS L).2 != 0) = true := bne_iff_ne.2 h0
    generalize (checkS L).2 = E at *
    generalize (checkS L).1 = E' at *
    clear h0
    go_wp2_with fail
    refine KS.out.mono ?_
    rintro e w1 ⟨rfl, hb1⟩
    have HB1 := Lib.hid hb1
    clear hb1 KS
    go_wp2_with fail
    exact ⟨_, results_tmp2 rfl _ _ _, show HitsP _ _ _ _ _ from (by rw [HE.out, HV2.out]; exact ⟨_, rfl, World.ownsRow_nil _ _ _ _, HB1.out⟩)⟩
end Go.Proofs.Ytafdaiidnphbaaa

/- Lists of hits in memory: after, Sorted of both. -/
namespace Go.Proofs.Ytafdaiidnphbaaa
open Go.RowKit Go.Sort

abbrev Hits (w : World) (v : Value) (l : List Hit) : Prop := Row w 2 v l.length (hcells l)
theorem hcells_at : ∀ (l : List Hit) (i : Nat) (h : i < l.length), (hcells l)[i * 2]? = some (.int .i64 l[i].1) ∧ (hcells l)[i * 2 + 1]? = some (.int .i64 l[i].2)
  | c :: l, 0, _ => ⟨rfl, rfl⟩
  | c :: l, i + 1, h => by
    obtain ⟨h1, h2⟩ := hcells_at l i (by simpa using h)
    rw [show (i + 1) * 2 = i * 2 + 2 by omega]
    exact ⟨h1, h2⟩
theorem Hits.at {w : World} {a : Option Addr} {n cap : Nat} {l : List Hit} (h : Hits w (.slice a n cap) l) {i : Nat} (hi : i < l.length) :
    ∃ g o, a = some ⟨g, o, none⟩ ∧ g < w.heap.size ∧ w.cell? ⟨g, o + i * 2, none⟩ = some (.int .i64 l[i].1) ∧ w.cell? ⟨g, o + i * 2 + 1, none⟩ = some (.int .i64 l[i].2) := by
  obtain ⟨g, o, cap', e, hg, hc⟩ := Row.cellAt2 h hi (by omega)
  cases e
  obtain ⟨e0, e1⟩ := hcells_at l i hi
  exact ⟨g, o, rfl, hg, (hc 0 (by omega)).trans e0, (hc 1 (by omega)).trans e1⟩
theorem Hits.ats {w : World} {g o n cap : Nat} {l : List Hit} (h : Hits w (.slice (some ⟨g, o, none⟩) n cap) l) {i : Nat} (hi : i < l.length) :
    w.cell? ⟨g, o + i * 2, none⟩ = some (.int .i64 l[i].1) ∧ w.cell? ⟨g, o + i * 2 + 1, none⟩ = some (.int .i64 l[i].2) := by
  obtain ⟨g', o', e, _, r⟩ := Hits.at h hi
  cases e
  exact r
theorem compare_b (x y : Hit) (w : World) : Calls Try.prog 41 #[hitV x, hitV y] w fun e w' => e = .returned (.int .i64 (cmpH x y)) ∧ Below w.heap.size w w' :=
  (compare_p x y w).mono fun e w' ⟨he, q, os, hw⟩ => ⟨he, by
    rw [hw]
    exact ⟨rfl, rfl, rfl, by simp [grow], fun k hk => by simp [grow, Array.getElem?_append, hk]⟩⟩
set_option maxRecDepth 100000 in
set_option maxHeartbeats 4000000 in
theorem after_r (x y : Hit) (w : World) : Calls Try.prog 48 #[hitV x, hitV y] w fun e w' => e = .returned (.bool (ltOf cmpH y x)) ∧ Below w.heap.size w w' := by
  obtain ⟨x1, x2⟩ := x
  obtain ⟨y1, y2⟩ := y
  unfold hitV
  have HL := Lib.hid (lt_cmp (y1, y2) (x1, x2))
  have hb : Below w.heap.size w ((w.alloc (.cells #[.int .i64 x1, .int .i64 x2] 38)).alloc (.cells #[.int .i64 y1, .int .i64 y2] 38)) := ((Below.refl _ _).alloc (Nat.le_refl _) _).alloc (by simp) _
  have HB := Lib.hid hb
  clear hb
  by_cases h1 : y1 < x1
  · have HE := Lib.hid (show ltOf cmpH (y1, y2) (x1, x2) = true by rw [HL.out]; simp [h1])
    go_enter Try.func48, Try.ntmps48
    go_wp2_with fail
    go_ret
    exact ⟨by rw [HE.out]; rfl, HB.out⟩
  · by_cases h2 : x1 = y1
    · subst h2
      by_cases h3 : y2 < x2
      · have HE := Lib.hid (show ltOf cmpH (x1, y2) (x1, x2) = true by rw [HL.out]; simp [h3])
        go_enter Try.func48, Try.ntmps48
        go_wp2_with fail
        go_ret
        exact ⟨by rw [HE.out]; rfl, HB.out⟩
      · have HE := Lib.hid (show ltOf cmpH (x1, y2) (x1, x2) = false by rw [HL.out]; simp; omega)
        have h3' : decide (y2 < x2) = false := decide_eq_false h3
        clear h3
        go_enter Try.func48, Try.ntmps48
        go_wp2_with fail
        go_ret
        exact ⟨by rw [HE.out]; rfl, HB.out⟩
    · have HE := Lib.hid (show ltOf cmpH (y1, y2) (x1, x2) = false by rw [HL.out]; simp; omega)
      have t2 : (x1 == y1) = false := beq_eq_false_iff_ne.2 h2
      clear h2
      go_enter Try.func48, Try.ntmps48
      go_wp2_with fail
      go_ret
      exact ⟨by rw [HE.out]; rfl, HB.out⟩

def badH (h : Hit) : Bool := decide (h.1 < 1 ∨ 1000000000 < h.1 ∨ h.2 < 0 ∨ 16 ≤ h.2)
def prevOk (l : List Hit) (i : Nat) : Bool := match l[i - 1]?, l[i]? with | some x, some y => ltOf cmpH x y | _, _ => true
def errH (l : List Hit) (i : Nat) : Int := match l[i]? with | none => 0 | some h => if badH h = true then 7 else if i ≠ 0 ∧ prevOk l i = false then 6 else 0
theorem errH_at {l : List Hit} {i : Nat} (h : i < l.length) : errH l i = if badH l[i] = true then 7 else if i ≠ 0 ∧ prevOk l i = false then 6 else 0 := by
  unfold errH; rw [List.getElem?_eq_getElem h]
theorem prevOk_at {l : List Hit} {i : Nat} (h : i + 1 < l.length) : prevOk l (i + 1) = ltOf cmpH l[i] l[i + 1] := by
  unfold prevOk
  rw [Nat.add_sub_cancel, List.getElem?_eq_getElem h, List.getElem?_eq_getElem (show i < l.length by omega)]
def sortedV (l : List Hit) : Int × Int := if 70000 < l.length then (0, 3) else firstN (errH l) 0 l.length
/-- a list of hits with which nothing is wrong -/
structure OkH (l : List Hit) : Prop where
  le : l.length ≤ 70000
  el : ∀ i (h : i < l.length), 1 ≤ l[i].1 ∧ l[i].1 ≤ 1000000000 ∧ 0 ≤ l[i].2 ∧ l[i].2 < 16
  lt : ∀ i (h : i + 1 < l.length), ltOf cmpH l[i] l[i + 1] = true
theorem okH_of {l : List Hit} (h : (sortedV l).2 = 0) : OkH l := by
  unfold sortedV at h
  by_cases h1 : 70000 < l.length
  · rw [if_pos h1] at h; exact absurd h (by decide)
  · rw [if_neg h1] at h
    have hz := fun i (hi : i < l.length) => firstN_zero _ 0 h i (by omega) (by omega)
    have hb : ∀ i (hi : i < l.length), badH l[i] = false := fun i hi => by
      have := hz i hi
      rw [errH_at hi] at this
      cases hbb : badH l[i]
      · rfl
      · rw [if_pos hbb] at this; exact absurd this (by decide)
    refine ⟨by omega, fun i hi => ?_, fun i hi => ?_⟩
    · have := hb i hi
      unfold badH at this
      rw [decide_eq_false_iff_not] at this
      omega
    · have := hz (i + 1) hi
      rw [errH_at hi, if_neg (by rw [hb]; decide), prevOk_at hi] at this
      cases hl : ltOf cmpH l[i] l[i + 1]
      · rw [if_pos ⟨by omega, hl⟩] at this; exact absurd this (by decide)
      · rfl
theorem OkH.sorted {l : List Hit} (h : OkH l) : sortedV l = (0, 0) := by
  unfold sortedV
  rw [if_neg (by have := h.le; omega)]
  refine firstN_none _ _ fun j _ hj => ?_
  have hj' : j < l.length := by omega
  rw [errH_at hj', if_neg, if_neg]
  · rintro ⟨h0, hp⟩
    obtain ⟨j, rfl⟩ : ∃ k, j = k + 1 := ⟨j - 1, by omega⟩
    rw [prevOk_at hj', h.lt j hj'] at hp
    cases hp
  · have := h.el j hj'
    unfold badH
    rw [decide_eq_true_eq]
    omega
theorem sortedV_ok {l : List Hit} (h : (sortedV l).2 = 0) : sortedV l = (0, 0) := (okH_of h).sorted
theorem bad_cases (h : Hit) : (badH h = true ∧ h.1 < 1) ∨ (badH h = true ∧ ¬ h.1 < 1 ∧ 1000000000 < h.1) ∨ (badH h = true ∧ ¬ h.1 < 1 ∧ ¬ 1000000000 < h.1 ∧ h.2 < 0) ∨ (badH h = true ∧ ¬ h.1 < 1 ∧ ¬ 1000000000 < h.1 ∧ ¬ h.2 < 0 ∧ 16 ≤ h.2) ∨ (badH h = false ∧ ¬ h.1 < 1 ∧ ¬ 1000000000 < h.1 ∧ ¬ h.2 < 0 ∧ ¬ 16 ≤ h.2) := by
  unfold badH
  simp only [decide_eq_true_eq, decide_eq_false_iff_not]
  omega
theorem cmp_ge (x y : Hit) : decide (0 ≤ cmpH x y) = !ltOf cmpH x y := by
  unfold ltOf
  rw [← decide_not, decide_eq_decide]
  omega
end Go.Proofs.Ytafdaiidnphbaaa

/- Sorted of both. -/
namespace Go.Proofs.Ytafdaiidnphbaaa
open Go.RowKit Go.Sort
theorem lt_of_cmp (x y : Hit) : ltOf cmpH x y = decide (cmpH x y < 0) := rfl

set_option maxRecDepth 100000 in
set_option maxHeartbeats 20000000 in
theorem sorted_p (v : Value) (l : List Hit) (w : World) (h : Hits w v l) :
    Calls Try.prog 18 #[v] w fun e w' => e = .returned (.tuple #[.int .i64 (sortedV l).1, .int .i64 (sortedV l).2]) ∧ Below w.heap.size w w' := by
  have HP := Lib.hid h
  have hmax : l.length ≤ maxLen := h.2.1
  unfold maxLen at hmax
  obtain ⟨a, cap, rfl⟩ := Row.form2 h
  clear h
  by_cases h1 : 70000 < l.length
  · have e : sortedV l = (0, 3) := by unfold sortedV; rw [if_pos h1]
    rw [e]
    have t1 : decide ((70000 : Int) < (l.length : Int)) = true := decide_eq_true (by omega)
    clear h1 e
    go_enter Try.func18, Try.ntmps18
    go_wp2_with fail
    go_ret2
    exact ⟨rfl, Below.refl _ _⟩
  · have e : sortedV l = firstN (errH l) 0 l.length := by unfold sortedV; rw [if_neg h1]
    have t1 : decide ((70000 : Int) < (l.length : Int)) = false := decide_eq_false (by omega)
    have hs : l.length ≤ 70000 := by omega
    rw [e]
    clear h1 e
    go_enter Try.func18, Try.ntmps18
    go_wp2_with fail
    go_loopw [11] (fun iv wr => ∃ i : Nat, i ≤ l.length ∧ iv = .int .i64 (i : Nat) ∧ firstN (errH l) 0 l.length = firstN (errH l) i (l.length - i) ∧ Below w.heap.size w wr) (fun iv _ => l.length - (intOf iv).toNat)
    case atStart => exact ⟨0, by omega, rfl, rfl, Below.refl _ _⟩
    case round =>
      obtain ⟨i, hi, rfl, hf, hB⟩ := hrel
      have HF := Lib.hid hf
      have HB := Lib.hid hB
      clear hf hB
      by_cases hlt : i < l.length
      · obtain ⟨g, o, hga, hg, d0, d1⟩ := Hits.at (Row.below HP.out HB.out) hlt
        subst hga
        have i1 : (0 : Int) ≤ (i : Int) := by omega
        have i2 : (i : Int) < (l.length : Int) := by omega
        have wi1 : IntKind.i64.wrap ((i : Int) + 1) = (i : Int) + 1 := IntWalk.i64_in _ (by omega)
        have HE := Lib.hid (errH_at hlt)
        have HIT := Lib.hid (fun E (he : errH l i = E) (h0 : E ≠ 0) => (show firstN (errH l) 0 l.length = ((i : Int), E) by rw [HF.out, show l.length - i = l.length - (i + 1) + 1 by omega, firstN_hit (by rw [he]; exact h0), he]))
        have ON := Lib.hid (fun (he : errH l i = 0) => (show firstN (errH l) 0 l.length = firstN (errH l) (i + 1) (l.length - (i + 1)) by rw [HF.out, show l.length - i = l.length - (i + 1) + 1 by omega, firstN_step he]))
        have HBA := Lib.hid (HB.out.alloc HB.out.size (.cells #[.int .i64 l[i].1, .int .i64 l[i].2] 38))
        rcases bad_cases l[i] with ⟨hb, h2⟩ | ⟨hb, h2, h3⟩ | ⟨hb, h2, h3, h4⟩ | ⟨hb, h2, h3, h4, h5⟩ | ⟨hb, h2, h3, h4, h5⟩
        · have HH := Lib.hid (HIT.out 7 (by rw [HE.out, if_pos hb]) (by decide))
          have q0 : decide (l[i].1 < 1) = true := decide_eq_true h2
          clear hb h2  HIT ON HE
          generalize l[i].1 = x1 at *
          generalize l[i].2 = x2 at *
          go_wp2_with fail
          go_ret2
          exact ⟨by rw [HH.out]; rfl, HBA.out⟩
        · have HH := Lib.hid (HIT.out 7 (by rw [HE.out, if_pos hb]) (by decide))
          have q0 : decide (l[i].1 < 1) = false := decide_eq_false h2
          have q1 : decide (1000000000 < l[i].1) = true := decide_eq_true h3
          clear hb h2 h3 HIT ON HE
          generalize l[i].1 = x1 at *
          generalize l[i].2 = x2 at *
          go_wp2_with fail
          go_ret2
          exact ⟨by rw [HH.out]; rfl, HBA.out⟩
        · have HH := Lib.hid (HIT.out 7 (by rw [HE.out, if_pos hb]) (by decide))
          have q0 : decide (l[i].1 < 1) = false := decide_eq_false h2
          have q1 : decide (1000000000 < l[i].1) = false := decide_eq_false h3
          have q2 : decide (l[i].2 < 0) = true := decide_eq_true h4
          clear hb h2 h3 h4 HIT ON HE
          generalize l[i].1 = x1 at *
          generalize l[i].2 = x2 at *
          go_wp2_with fail
          go_ret2
          exact ⟨by rw [HH.out]; rfl, HBA.out⟩
        · have HH := Lib.hid (HIT.out 7 (by rw [HE.out, if_pos hb]) (by decide))
          have q0 : decide (l[i].1 < 1) = false := decide_eq_false h2
          have q1 : decide (1000000000 < l[i].1) = false := decide_eq_false h3
          have q2 : decide (l[i].2 < 0) = false := decide_eq_false h4
          have q3 : decide (16 ≤ l[i].2) = true := decide_eq_true h5
          clear hb h2 h3 h4 h5 HIT ON HE
          generalize l[i].1 = x1 at *
          generalize l[i].2 = x2 at *
          go_wp2_with fail
          go_ret2
          exact ⟨by rw [HH.out]; rfl, HBA.out⟩
        · have he1 := HE.out
          rw [if_neg (by rw [hb]; decide)] at he1
          have q0 : decide (l[i].1 < 1) = false := decide_eq_false h2
          have q1 : decide (1000000000 < l[i].1) = false := decide_eq_false h3
          have q2 : decide (l[i].2 < 0) = false := decide_eq_false h4
          have q3 : decide (16 ≤ l[i].2) = false := decide_eq_false h5
          clear hb h2 h3 h4 h5 HE
          by_cases h0 : i = 0
          · have ON2 := Lib.hid (ON.out (by rw [he1, if_neg (by simp [h0])]))
            have tz : decide (0 < (i : Int)) = false := decide_eq_false (by omega)
            have tz2 : ¬ 0 < i := by omega
            clear he1 h0 HIT ON
            generalize l[i].1 = x1 at *
            generalize l[i].2 = x2 at *
            have hW : ∃ W, wr.alloc (.cells #[.int .i64 x1, .int .i64 x2] 38) = W := ⟨_, rfl⟩
            obtain ⟨W, hW⟩ := hW
            rw [hW] at HBA
            have hh : W.heap[wr.heap.size]? = some (.cells #[.int .i64 x1, .int .i64 x2] 38) := by rw [← hW]; exact heap_alloc_new wr _
            have e0 : W.cell? ⟨wr.heap.size, 0, none⟩ = some (.int .i64 x1) := cell_in hh rfl
            have e1 : W.cell? ⟨wr.heap.size, 1, none⟩ = some (.int .i64 x2) := cell_in hh rfl
            clear hh
            go_wp2_with fail
            refine wp_region_quiet_below (by kernel_rfl) (by kernel_rfl) ?_
            repeat (go_big_quiet_step (fail))
            refine wpQuiet_nil ?_
            intro _ hw'
            obtain ⟨⟨dq, osq⟩, hw''⟩ := hw'
            subst hw''
            have HB2 := Lib.hid (next HBA.out (below_regrown _ dq osq))
            clear d0 d1
            go_wp2_with fail
            exact ⟨⟨i + 1, by omega, by go_num, ON2.out, HB2.out⟩, by simp [intOf]; omega⟩
          · have tz : decide (0 < (i : Int)) = true := decide_eq_true (by omega)
            have tz2 : 0 < i := by omega
            have hp1 : i - 1 < l.length := by omega
            have hpk : prevOk l i = decide (cmpH l[i - 1] l[i] < 0) := by
              obtain ⟨j, rfl⟩ : ∃ j, i = j + 1 := ⟨i - 1, by omega⟩
              rw [prevOk_at hlt, lt_of_cmp]
              simp only [Nat.add_sub_cancel]
            obtain ⟨c0, c1⟩ := Hits.ats (Row.below HP.out HB.out) hp1
            have wi : IntKind.i64.wrap ((i : Int) - 1) = ((i - 1 : Nat) : Int) := by rw [IntWalk.i64_in _ (by omega)]; omega
            have j1 : (0 : Int) ≤ ((i - 1 : Nat) : Int) := by omega
            have j2 : ((i - 1 : Nat) : Int) < (l.length : Int) := by omega
            have K := Lib.hid (fun W => compare_b l[i - 1] l[i] W)
            unfold hitV at K
            have HGo := Lib.hid (fun (hE : cmpH l[i - 1] l[i] < 0) => ON.out (by rw [he1, if_neg (by rintro ⟨_, hp⟩; rw [hpk, decide_eq_true hE] at hp; cases hp)]))
            have HNo := Lib.hid (fun (hE : ¬ cmpH l[i - 1] l[i] < 0) => HIT.out 6 (by rw [he1, if_pos ⟨h0, by rw [hpk, decide_eq_false hE]⟩]) (by decide))
            generalize cmpH l[i - 1] l[i] = E at *
            clear he1 hpk h0 HIT ON
            generalize l[i].1 = x1 at *
            generalize l[i].2 = x2 at *
            generalize l[i - 1].1 = y1 at *
            generalize l[i - 1].2 = y2 at *
            generalize i - 1 = q at *
            have hW : ∃ W, wr.alloc (.cells #[.int .i64 x1, .int .i64 x2] 38) = W := ⟨_, rfl⟩
            obtain ⟨W, hW⟩ := hW
            rw [hW] at HBA
            have hh : W.heap[wr.heap.size]? = some (.cells #[.int .i64 x1, .int .i64 x2] 38) := by rw [← hW]; exact heap_alloc_new wr _
            have hbW : Below wr.heap.size wr W := by rw [← hW]; exact (Below.refl _ _).alloc (Nat.le_refl _) _
            have p0 := fun d os => cell_regrown ((hbW.cell (p := ⟨g, o + q * 2, none⟩) hg).trans c0) d os
            have p1 := fun d os => cell_regrown ((hbW.cell (p := ⟨g, o + q * 2 + 1, none⟩) hg).trans c1) d os
            have p2 := fun d os => cell_regrown (show W.cell? ⟨wr.heap.size, 0, none⟩ = some (.int .i64 x1) from cell_in hh rfl) d os
            have p3 := fun d os => cell_regrown (show W.cell? ⟨wr.heap.size, 1, none⟩ = some (.int .i64 x2) from cell_in hh rfl) d os
            have e0 : W.cell? ⟨wr.heap.size, 0, none⟩ = some (.int .i64 x1) := cell_in hh rfl
            have e1 : W.cell? ⟨wr.heap.size, 1, none⟩ = some (.int .i64 x2) := cell_in hh rfl
            clear hh hbW c0 c1
            by_cases hE : E < 0
            · have HG := Lib.hid (HGo.out hE)
              have tE : decide (0 ≤ E) = false := decide_eq_false (by omega)
              clear hE HGo HNo
              go_wp2_with fail
              refine wp_region_quiet_below (by kernel_rfl) (by kernel_rfl) ?_
              repeat (go_big_quiet_step ((go_at_call 41; exact Calls.regrown_of (K.out _))))
              refine wpQuiet_nil ?_
              intro _ hw'
              obtain ⟨⟨dq, osq⟩, hw''⟩ := hw'
              subst hw''
              have HB2 := Lib.hid (next HBA.out (below_regrown _ dq osq))
              clear d0 d1 p0 p1 p2 p3
              go_wp2_with fail
              exact ⟨⟨i + 1, by omega, by go_num, HG.out, HB2.out⟩, by simp [intOf]; omega⟩
            · have HG := Lib.hid (HNo.out hE)
              have tE : decide (0 ≤ E) = true := decide_eq_true (by omega)
              clear hE HGo HNo
              go_wp2_with fail
              refine wp_region_quiet_below (by kernel_rfl) (by kernel_rfl) ?_
              repeat (go_big_quiet_step ((go_at_call 41; exact Calls.regrown_of (K.out _))))
              refine wpQuiet_nil ?_
              intro _ hw'
              obtain ⟨⟨dq, osq⟩, hw''⟩ := hw'
              subst hw''
              have HB2 := Lib.hid (next HBA.out (below_regrown _ dq osq))
              clear d0 d1 p0 p1 p2 p3
              go_wp2_with fail
              go_ret2
              exact ⟨by rw [HG.out]; rfl, HB2.out⟩
      · obtain rfl : l.length = i := by omega
        have i1 : ¬ ((l.length : Int) < (l.length : Int)) := by omega
        have HH := Lib.hid (show firstN (errH l) 0 l.length = (0, 0) by rw [HF.out, Nat.sub_self]; rfl)
        go_wp2_with fail
        go_ret2
        exact ⟨by rw [HH.out]; rfl, HB.out⟩
set_option maxRecDepth 100000 in
set_option maxHeartbeats 20000000 in
theorem sorted_r (v : Value) (l : List Hit) (w : World) (h : Hits w v l) :
    Calls Try.prog 19 #[v] w fun e w' => e = .returned (.tuple #[.int .i64 (sortedV l).1, .int .i64 (sortedV l).2]) ∧ Below w.heap.size w w' := by
  have HP := Lib.hid h
  have hmax : l.length ≤ maxLen := h.2.1
  unfold maxLen at hmax
  obtain ⟨a, cap, rfl⟩ := Row.form2 h
  clear h
  by_cases h1 : 70000 < l.length
  · have e : sortedV l = (0, 3) := by unfold sortedV; rw [if_pos h1]
    rw [e]
    have t1 : decide ((70000 : Int) < (l.length : Int)) = true := decide_eq_true (by omega)
    clear h1 e
    go_enter Try.func19, Try.ntmps19
    go_wp2_with fail
    go_ret2
    exact ⟨rfl, Below.refl _ _⟩
  · have e : sortedV l = firstN (errH l) 0 l.length := by unfold sortedV; rw [if_neg h1]
    have t1 : decide ((70000 : Int) < (l.length : Int)) = false := decide_eq_false (by omega)
    have hs : l.length ≤ 70000 := by omega
    rw [e]
    clear h1 e
    go_enter Try.func19, Try.ntmps19
    go_wp2_with fail
    go_loopw [4] (fun iv wr => ∃ i : Nat, i ≤ l.length ∧ iv = .int .i64 (i : Nat) ∧ firstN (errH l) 0 l.length = firstN (errH l) i (l.length - i) ∧ Below w.heap.size w wr) (fun iv _ => l.length - (intOf iv).toNat)
    case atStart => exact ⟨0, by omega, rfl, rfl, Below.refl _ _⟩
    case round =>
      obtain ⟨i, hi, rfl, hf, hB⟩ := hrel
      have HF := Lib.hid hf
      have HB := Lib.hid hB
      clear hf hB
      by_cases hlt : i < l.length
      · obtain ⟨g, o, hga, hg, d0, d1⟩ := Hits.at (Row.below HP.out HB.out) hlt
        subst hga
        have i1 : (0 : Int) ≤ (i : Int) := by omega
        have i2 : (i : Int) < (l.length : Int) := by omega
        have wi1 : IntKind.i64.wrap ((i : Int) + 1) = (i : Int) + 1 := IntWalk.i64_in _ (by omega)
        have HE := Lib.hid (errH_at hlt)
        have HIT := Lib.hid (fun E (he : errH l i = E) (h0 : E ≠ 0) => (show firstN (errH l) 0 l.length = ((i : Int), E) by rw [HF.out, show l.length - i = l.length - (i + 1) + 1 by omega, firstN_hit (by rw [he]; exact h0), he]))
        have ON := Lib.hid (fun (he : errH l i = 0) => (show firstN (errH l) 0 l.length = firstN (errH l) (i + 1) (l.length - (i + 1)) by rw [HF.out, show l.length - i = l.length - (i + 1) + 1 by omega, firstN_step he]))
        have HBA := Lib.hid HB.out
        rcases bad_cases l[i] with ⟨hb, h2⟩ | ⟨hb, h2, h3⟩ | ⟨hb, h2, h3, h4⟩ | ⟨hb, h2, h3, h4, h5⟩ | ⟨hb, h2, h3, h4, h5⟩
        · have HH := Lib.hid (HIT.out 7 (by rw [HE.out, if_pos hb]) (by decide))
          have q0 : decide (l[i].1 < 1) = true := decide_eq_true h2
          clear hb h2  HIT ON HE
          generalize l[i].1 = x1 at *
          generalize l[i].2 = x2 at *
          go_wp2_with fail
          go_ret2
          exact ⟨by rw [HH.out]; rfl, HBA.out⟩
        · have HH := Lib.hid (HIT.out 7 (by rw [HE.out, if_pos hb]) (by decide))
          have q0 : decide (l[i].1 < 1) = false := decide_eq_false h2
          have q1 : decide (1000000000 < l[i].1) = true := decide_eq_true h3
          clear hb h2 h3 HIT ON HE
          generalize l[i].1 = x1 at *
          generalize l[i].2 = x2 at *
          go_wp2_with fail
          go_ret2
          exact ⟨by rw [HH.out]; rfl, HBA.out⟩
        · have HH := Lib.hid (HIT.out 7 (by rw [HE.out, if_pos hb]) (by decide))
          have q0 : decide (l[i].1 < 1) = false := decide_eq_false h2
          have q1 : decide (1000000000 < l[i].1) = false := decide_eq_false h3
          have q2 : decide (l[i].2 < 0) = true := decide_eq_true h4
          clear hb h2 h3 h4 HIT ON HE
          generalize l[i].1 = x1 at *
          generalize l[i].2 = x2 at *
          go_wp2_with fail
          go_ret2
          exact ⟨by rw [HH.out]; rfl, HBA.out⟩
        · have HH := Lib.hid (HIT.out 7 (by rw [HE.out, if_pos hb]) (by decide))
          have q0 : decide (l[i].1 < 1) = false := decide_eq_false h2
          have q1 : decide (1000000000 < l[i].1) = false := decide_eq_false h3
          have q2 : decide (l[i].2 < 0) = false := decide_eq_false h4
          have q3 : decide (16 ≤ l[i].2) = true := decide_eq_true h5
          clear hb h2 h3 h4 h5 HIT ON HE
          generalize l[i].1 = x1 at *
          generalize l[i].2 = x2 at *
          go_wp2_with fail
          go_ret2
          exact ⟨by rw [HH.out]; rfl, HBA.out⟩
        · have he1 := HE.out
          rw [if_neg (by rw [hb]; decide)] at he1
          have q0 : decide (l[i].1 < 1) = false := decide_eq_false h2
          have q1 : decide (1000000000 < l[i].1) = false := decide_eq_false h3
          have q2 : decide (l[i].2 < 0) = false := decide_eq_false h4
          have q3 : decide (16 ≤ l[i].2) = false := decide_eq_false h5
          clear hb h2 h3 h4 h5 HE
          by_cases h0 : i = 0
          · have ON2 := Lib.hid (ON.out (by rw [he1, if_neg (by simp [h0])]))
            have tz : decide (0 < (i : Int)) = false := decide_eq_false (by omega)
            have tz2 : ¬ 0 < i := by omega
            clear he1 h0 HIT ON
            generalize l[i].1 = x1 at *
            generalize l[i].2 = x2 at *
            obtain ⟨W, rfl⟩ : ∃ W, wr = W := ⟨_, rfl⟩
            go_wp2_with fail
            refine wp_region_quiet_below (by kernel_rfl) (by kernel_rfl) ?_
            repeat (go_big_quiet_step (fail))
            refine wpQuiet_nil ?_
            intro _ hw'
            obtain ⟨⟨dq, osq⟩, hw''⟩ := hw'
            subst hw''
            have HB2 := Lib.hid (next HBA.out (below_regrown _ dq osq))
            clear d0 d1
            go_wp2_with fail
            exact ⟨⟨i + 1, by omega, by go_num, ON2.out, HB2.out⟩, by simp [intOf]; omega⟩
          · have tz : decide (0 < (i : Int)) = true := decide_eq_true (by omega)
            have tz2 : 0 < i := by omega
            have hp1 : i - 1 < l.length := by omega
            have hpk : prevOk l i = decide (cmpH l[i - 1] l[i] < 0) := by
              obtain ⟨j, rfl⟩ : ∃ j, i = j + 1 := ⟨i - 1, by omega⟩
              rw [prevOk_at hlt, lt_of_cmp]
              simp only [Nat.add_sub_cancel]
            obtain ⟨c0, c1⟩ := Hits.ats (Row.below HP.out HB.out) hp1
            have wi : IntKind.i64.wrap ((i : Int) - 1) = ((i - 1 : Nat) : Int) := by rw [IntWalk.i64_in _ (by omega)]; omega
            have j1 : (0 : Int) ≤ ((i - 1 : Nat) : Int) := by omega
            have j2 : ((i - 1 : Nat) : Int) < (l.length : Int) := by omega
            have K := Lib.hid (fun W => after_r l[i] l[i - 1] W)
            rw [lt_of_cmp] at K
            unfold hitV at K
            have HGo := Lib.hid (fun (hE : cmpH l[i - 1] l[i] < 0) => ON.out (by rw [he1, if_neg (by rintro ⟨_, hp⟩; rw [hpk, decide_eq_true hE] at hp; cases hp)]))
            have HNo := Lib.hid (fun (hE : ¬ cmpH l[i - 1] l[i] < 0) => HIT.out 6 (by rw [he1, if_pos ⟨h0, by rw [hpk, decide_eq_false hE]⟩]) (by decide))
            generalize cmpH l[i - 1] l[i] = E at *
            clear he1 hpk h0 HIT ON
            generalize l[i].1 = x1 at *
            generalize l[i].2 = x2 at *
            generalize l[i - 1].1 = y1 at *
            generalize l[i - 1].2 = y2 at *
            generalize i - 1 = q at *
            have p0 := fun d os => cell_regrown c0 d os
            have p1 := fun d os => cell_regrown c1 d os
            have p2 := fun d os => cell_regrown d0 d os
            have p3 := fun d os => cell_regrown d1 d os
            clear c0 c1
            by_cases hE : E < 0
            · have HG := Lib.hid (HGo.out hE)
              rw [decide_eq_true hE] at K
              clear hE HGo HNo
              go_wp2_with fail
              refine wp_region_quiet_below (by kernel_rfl) (by kernel_rfl) ?_
              repeat (go_big_quiet_step ((go_at_call 48; exact Calls.regrown_of (K.out _))))
              refine wpQuiet_nil ?_
              intro _ hw'
              obtain ⟨⟨dq, osq⟩, hw''⟩ := hw'
              subst hw''
              have HB2 := Lib.hid (next HBA.out (below_regrown _ dq osq))
              clear d0 d1 p0 p1 p2 p3
              go_wp2_with fail
              exact ⟨⟨i + 1, by omega, by go_num, HG.out, HB2.out⟩, by simp [intOf]; omega⟩
            · have HG := Lib.hid (HNo.out hE)
              rw [decide_eq_false hE] at K
              clear hE HGo HNo
              go_wp2_with fail
              refine wp_region_quiet_below (by kernel_rfl) (by kernel_rfl) ?_
              repeat (go_big_quiet_step ((go_at_call 48; exact Calls.regrown_of (K.out _))))
              refine wpQuiet_nil ?_
              intro _ hw'
              obtain ⟨⟨dq, osq⟩, hw''⟩ := hw'
              subst hw''
              have HB2 := Lib.hid (next HBA.out (below_regrown _ dq osq))
              clear d0 d1 p0 p1 p2 p3
              go_wp2_with fail
              go_ret2
              exact ⟨by rw [HG.out]; rfl, HB2.out⟩
      · obtain rfl : l.length = i := by omega
        have i1 : ¬ ((l.length : Int) < (l.length : Int)) := by omega
        have HH := Lib.hid (show firstN (errH l) 0 l.length = (0, 0) by rw [HF.out, Nat.sub_self]; rfl)
        go_wp2_with fail
        go_ret2
        exact ⟨by rw [HH.out]; rfl, HB.out⟩
end Go.Proofs.Ytafdaiidnphbaaa

/- First of both. -/
namespace Go.Proofs.Ytafdaiidnphbaaa
open Go.RowKit Go.Sort

theorem hcells_one (l : List Hit) : ∀ u ∈ hcells l, u.oneCell' = true := by
  intro u hu
  unfold hcells at hu
  rw [List.mem_flatMap] at hu
  obtain ⟨e, _, hu⟩ := hu
  exact hcell_one e u hu
/-- append to hits that the call owns -/
theorem app_h {w : World} {base : Nat} {v v2 : Value} {l m : List Hit} (hown : w.ownsRow base 38 2 v l.length (hcells l)) (hr : Hits w v2 m) (hl : l.length + m.length ≤ 1000000) (hbase : base ≤ w.heap.size) :
    ∃ a cap w', (Builtin.append_ #[34, 34] 34 #[v, v2]).run Try.prog w = .ok (.slice a (l ++ m).length cap) w' ∧ w'.ownsRow base 38 2 (.slice a (l ++ m).length cap) (l ++ m).length (hcells (l ++ m)) ∧ w.grownBy w' v.ownBlock ∧ Below base w w' := by
  obtain ⟨j0, hj, hy0, hy1, hy2⟩ := info_parts infoHit
  obtain ⟨v', w', h1, h2, h3⟩ := append_row (P := Try.prog) base 34 34 38 Try.underlying34 hj hy0 hy1 hy2 rfl (by decide) hown hr (hcells_one _) (by unfold maxLen; omega) (by omega) hbase
  rw [← List.length_append, ← hcells_append] at h2
  obtain ⟨a, cap, rfl⟩ := Row.form2 (Row.of_owns h2)
  exact ⟨a, cap, w', h1, h2, h3, (Below.refl base w).grown h3 hbase (fun q e => (hown.lt q e).1)⟩
set_option maxRecDepth 100000 in
set_option maxHeartbeats 4000000 in
theorem clone_h (v : Value) (l : List Hit) (w : World) (h : Hits w v l) (h1 : l.length ≤ 100000) :
    Calls Try.prog 49 #[v] w fun e w' => ∃ u, e = .returned u ∧ w'.ownsRow w.heap.size 38 2 u l.length (hcells l) ∧ Below w.heap.size w w' := by
  obtain ⟨a, cap, rfl⟩ := Row.form2 h
  have q22 : ∀ (w : World) (a : Option Addr) (n c : Nat), (binOp .eql 34 (.slice a n c) (.slice none 0 0)).run Try.prog w = .ok (.bool a.isNone) w := fun w a n c => Go.run_eql_slice_nil w _ _ a n c Try.underlying34
  cases a with
  | none =>
    have hl : l = [] := by
      obtain ⟨_, _, a, c, e, _, h2⟩ := h
      cases e
      rcases h2 with h2 | ⟨g, o, e, _⟩
      · exact List.eq_nil_of_length_eq_zero h2
      · cases e
    subst hl
    clear h
    go_enter Try.func49, Try.ntmps49
    go_wp2_with fail
    go_ret
    exact ⟨_, rfl, World.ownsRow_nil _ _ _ _, Below.refl _ _⟩
  | some ad =>
    have o0 : (w.alloc (.cells #[] 38)).ownsRow w.heap.size 38 2 (.slice (some ⟨w.heap.size, 0, none⟩) 0 0) ([] : List Hit).length (hcells []) := World.ownsRow_lit w #[] 0 (Nat.le_refl _) (by decide) rfl
    have al : Below w.heap.size w (w.alloc (.cells #[] 38)) := (Below.refl _ _).alloc (Nat.le_refl _) _
    obtain ⟨aa, ca, wa, hra, hoa, _, hba⟩ := app_h o0 (Row.below h al) (by simp; omega) al.size
    rw [List.nil_append] at hra hoa
    have HRA := Lib.hid hra
    have HBA := Lib.hid (al.trans hba)
    have HOA := Lib.hid hoa
    clear hoa hba hra al o0 h
    go_enter Try.func49, Try.ntmps49
    go_wp2_with (at_builtin; refine wpList_append_run rfl rfl rfl rfl HRA.out ?_)
    go_ret
    exact ⟨_, rfl, HOA.out, HBA.out⟩

theorem hcells_take (l : List Hit) (k : Nat) : (hcells l).take (k * 2) = hcells (l.take k) := by
  induction l generalizing k with
  | nil => simp [hcells]
  | cons x l ih =>
    cases k with
    | zero => simp [hcells]
    | succ k =>
      have := ih k
      rw [List.take_succ_cons, Nat.add_mul, Nat.one_mul]
      simp only [hcells, List.flatMap_cons, hcell] at this ⊢
      simp [this]
theorem hcells_drop (l : List Hit) (k : Nat) : (hcells l).drop (k * 2) = hcells (l.drop k) := by
  induction l generalizing k with
  | nil => simp [hcells]
  | cons x l ih =>
    cases k with
    | zero => simp [hcells]
    | succ k =>
      have := ih k
      rw [List.drop_succ_cons, Nat.add_mul, Nat.one_mul]
      simp only [hcells, List.flatMap_cons, hcell] at this ⊢
      simp [this]
theorem hrow_cut {w : World} {s n cap : Nat} {a : Option Addr} {xs : List Value} (h : Row w s (.slice a n cap) n xs) {lo hi : Nat} (h1 : lo ≤ hi) (h2 : hi ≤ n) (hc : n ≤ cap) :
    Row w s (.slice (if cap = lo then a else a.map (·.add (lo * s))) (hi - lo) (cap - lo)) (hi - lo) ((xs.take (hi * s)).drop (lo * s)) := by
  obtain ⟨hl, hm, a', cap', e, hn, hr⟩ := h
  cases e
  have hmul : hi * s ≤ n * s := Nat.mul_le_mul_right _ h2
  have hlen : ((xs.take (hi * s)).drop (lo * s)).length = (hi - lo) * s := by rw [List.length_drop, List.length_take, hl, Nat.sub_mul, Nat.min_eq_left hmul]
  refine ⟨hlen, by omega, _, _, rfl, fun h0 => ?_, ?_⟩
  · by_cases hcl : cap = lo
    · omega
    · rw [if_neg hcl] at h0
      cases a with
      | none => have := hn rfl; omega
      | some a => simp at h0
  · by_cases h0 : hi - lo = 0
    · exact .inl h0
    · right
      rcases hr with hr | ⟨g, o, rfl, hr⟩
      · omega
      · rw [if_neg (by omega)]
        refine ⟨g, o + lo * s, by simp [Addr.add], fun j hj => ?_⟩
        have hj2 : lo * s + j < hi * s := by rw [Nat.sub_mul] at hj; omega
        rw [List.getElem?_drop, List.getElem?_take, if_pos hj2, ← hr (lo * s + j) (by omega), Nat.add_assoc]
theorem hits_take {w : World} {a : Option Addr} {cap : Nat} {l : List Hit} (h : Hits w (.slice a l.length cap) l) (hi : Nat) (h2 : hi ≤ l.length) : Hits w (.slice a hi cap) (l.take hi) := by
  obtain ⟨hl, hm, a', cap', e, hn, hr⟩ := h
  cases e
  have ht : (l.take hi).length = hi := by rw [List.length_take, Nat.min_eq_left h2]
  unfold Hits
  rw [ht, ← hcells_take]
  refine ⟨by rw [List.length_take, hl]; exact Nat.min_eq_left (Nat.mul_le_mul_right _ h2), by omega, _, _, rfl, fun h0 => by have := hn h0; omega, ?_⟩
  by_cases h0 : hi = 0
  · exact .inl h0
  · right
    rcases hr with hr | ⟨g, o, rfl, hr⟩
    · omega
    · refine ⟨g, o, rfl, fun j hj => ?_⟩
      rw [List.getElem?_take, if_pos hj]
      exact hr j (by omega)

def hfirstE (l : List Hit) (k : Int) : Int := if (sortedV l).2 ≠ 0 then (sortedV l).2 else if k < 0 then 7 else 0
def hfirstL (l : List Hit) (k : Int) : List Hit := if hfirstE l k = 0 then l.take (min k.toNat l.length) else []
def hfirstD (l : List Hit) (k : Int) : Nat := if hfirstE l k = 0 then min (l.length - min k.toNat l.length) 65535 else 0
/-- hits freshly made, a number and an error's number -/
def Hits3 (w : World) (l : List Hit) (d : Nat) (x : Int) (e : Ending) (w' : World) : Prop := ∃ v, e = .returned (.tuple #[v, .int .i64 (d : Int), .int .i64 x]) ∧ w'.ownsRow w.heap.size 38 2 v l.length (hcells l) ∧ Below w.heap.size w w'
set_option maxRecDepth 100000 in
set_option maxHeartbeats 8000000 in
theorem first_p (a : Option Addr) (cap : Nat) (l : List Hit) (k : Int) (w : World) (h : Hits w (.slice a l.length cap) l) (hc : l.length ≤ cap) :
    Calls Try.prog 20 #[.slice a l.length cap, .int .i64 k] w (Hits3 w (hfirstL l k) (hfirstD l k) (hfirstE l k)) := by
  have KS := Lib.hid (sorted_p _ l w h)
  have HP := Lib.hid h
  by_cases h0 : (sortedV l).2 = 0
  · have hle := (okH_of h0).le
    rw [sortedV_ok h0] at KS
    by_cases hk : k < 0
    · have HE := Lib.hid (show hfirstE l k = 7 by unfold hfirstE; rw [if_neg (by rw [h0]; simp), if_pos hk])
      have HL := Lib.hid (show hfirstL l k = [] by unfold hfirstL; rw [if_neg (by rw [HE.out]; decide)])
      have HD := Lib.hid (show hfirstD l k = 0 by unfold hfirstD; rw [if_neg (by rw [HE.out]; decide)])
      clear h0 h
      go_enter Try.func20, Try.ntmps20
      go_wp2_with fail
      refine KS.out.mono ?_
      rintro e w1 ⟨rfl, hb1⟩
      have HB1 := Lib.hid hb1
      clear hb1
      go_wp2_with fail
      go_ret3
      exact show Hits3 _ _ _ _ _ _ from (by rw [HE.out, HL.out, HD.out]; exact ⟨_, rfl, World.ownsRow_nil _ _ _ _, HB1.out⟩)
    · obtain ⟨k, rfl⟩ : ∃ n : Nat, k = n := ⟨k.toNat, by omega⟩
      have HE := Lib.hid (show hfirstE l k = 0 by unfold hfirstE; rw [if_neg (by rw [h0]; simp), if_neg hk])
      have HL := Lib.hid (show hfirstL l k = l.take (min k l.length) by unfold hfirstL; rw [if_pos HE.out]; rfl)
      have HD := Lib.hid (show hfirstD l k = min (l.length - min k l.length) 65535 by unfold hfirstD; rw [if_pos HE.out]; rfl)
      clear h0 hk h
      go_enter Try.func20, Try.ntmps20
      go_wp2_with fail
      refine KS.out.mono ?_
      rintro e w1 ⟨rfl, hb1⟩
      have HB1 := Lib.hid hb1
      clear hb1
      go_wp2_with fail
      rw [show (min (k : Int) (l.length : Int)).toNat = min k l.length by omega]
      refine (clone_h _ _ _ (hits_take (HP.out.below HB1.out) (min k l.length) (by omega)) (by rw [List.length_take]; omega)).mono ?_
      rintro e w2 ⟨u, rfl, ho, hb2⟩
      have HO := Lib.hid ho
      have HB2 := Lib.hid hb2
      clear ho hb2
      go_wp2_with fail
      go_ret3
      refine show Hits3 _ _ _ _ _ _ from ?_
      rw [HE.out, HL.out, HD.out]
      have HT : (l.take (min k l.length)).length = min k l.length := by rw [List.length_take]; omega
      refine ⟨u, ?_, HO.out.mono HB1.out.size, HB1.out.trans (HB2.out.mono HB1.out.size)⟩
      show Ending.returned (.tuple #[u, .int .i64 (min ((l.length : Int) - min (k : Int) (l.length : Int)) 65535), .int .i64 0]) = _
      rw [show (min ((l.length : Int) - min (k : Int) (l.length : Int)) 65535) = ((min (l.length - min k l.length) 65535 : Nat) : Int) by omega]
  · have HE := Lib.hid (show hfirstE l k = (sortedV l).2 by unfold hfirstE; rw [if_pos h0])
    have HL := Lib.hid (show hfirstL l k = [] by unfold hfirstL; rw [if_neg (by rw [HE.out]; exact h0)])
    have HD := Lib.hid (show hfirstD l k = 0 by unfold hfirstD; rw [if_neg (by rw [HE.out]; exact h0)])
    generalize (sortedV l).2 = x at *
    clear h
    go_enter Try.func20, Try.ntmps20
    go_wp2_with fail
    refine KS.out.mono ?_
    rintro e w1 ⟨rfl, hb1⟩
    have HB1 := Lib.hid hb1
    clear hb1
    go_wp2_with fail
    go_ret3
    exact show Hits3 _ _ _ _ _ _ from (by rw [HE.out, HL.out, HD.out]; exact ⟨_, rfl, World.ownsRow_nil _ _ _ _, HB1.out⟩)
set_option maxRecDepth 100000 in
set_option maxHeartbeats 8000000 in
theorem first_r (a : Option Addr) (cap : Nat) (l : List Hit) (k : Int) (w : World) (h : Hits w (.slice a l.length cap) l) (hc : l.length ≤ cap) :
    Calls Try.prog 21 #[.slice a l.length cap, .int .i64 k] w (Hits3 w (hfirstL l k) (hfirstD l k) (hfirstE l k)) := by
  have KS := Lib.hid (sorted_r _ l w h)
  have HP := Lib.hid h
  by_cases h0 : (sortedV l).2 = 0
  · have hle := (okH_of h0).le
    rw [sortedV_ok h0] at KS
    by_cases hk : k < 0
    · have HE := Lib.hid (show hfirstE l k = 7 by unfold hfirstE; rw [if_neg (by rw [h0]; simp), if_pos hk])
      have HL := Lib.hid (show hfirstL l k = [] by unfold hfirstL; rw [if_neg (by rw [HE.out]; decide)])
      have HD := Lib.hid (show hfirstD l k = 0 by unfold hfirstD; rw [if_neg (by rw [HE.out]; decide)])
      clear h0 h
      go_enter Try.func21, Try.ntmps21
      go_wp2_with fail
      refine KS.out.mono ?_
      rintro e w1 ⟨rfl, hb1⟩
      have HB1 := Lib.hid hb1
      clear hb1
      go_wp2_with fail
      go_ret3
      exact show Hits3 _ _ _ _ _ _ from (by rw [HE.out, HL.out, HD.out]; exact ⟨_, rfl, World.ownsRow_nil _ _ _ _, HB1.out⟩)
    · obtain ⟨k, rfl⟩ : ∃ n : Nat, k = n := ⟨k.toNat, by omega⟩
      have HE := Lib.hid (show hfirstE l k = 0 by unfold hfirstE; rw [if_neg (by rw [h0]; simp), if_neg hk])
      have HL := Lib.hid (show hfirstL l k = l.take (min k l.length) by unfold hfirstL; rw [if_pos HE.out]; rfl)
      have HD := Lib.hid (show hfirstD l k = min (l.length - min k l.length) 65535 by unfold hfirstD; rw [if_pos HE.out]; rfl)
      clear h0 hk h
      go_enter Try.func21, Try.ntmps21
      go_wp2_with fail
      refine KS.out.mono ?_
      rintro e w1 ⟨rfl, hb1⟩
      have HB1 := Lib.hid hb1
      clear hb1
      have hT := hits_take (HP.out.below HB1.out) (min k l.length) (by omega)
      have o0 : (w1.alloc (.cells #[] 38)).ownsRow w1.heap.size 38 2 (.slice (some ⟨w1.heap.size, 0, none⟩) 0 0) ([] : List Hit).length (hcells []) := World.ownsRow_lit w1 #[] 0 (Nat.le_refl _) (by decide) rfl
      have al : Below w1.heap.size w1 (w1.alloc (.cells #[] 38)) := (Below.refl _ _).alloc (Nat.le_refl _) _
      obtain ⟨aa, ca, wa, hra, hoa, _, hba⟩ := app_h o0 (Row.below hT al) (by rw [List.length_take]; simp only [List.length_nil]; omega) al.size
      rw [List.nil_append] at hra hoa
      generalize Value.slice aa _ ca = va at hra hoa
      rw [show min k l.length = (min (k : Int) (l.length : Int)).toNat by omega] at hra
      have HRA := Lib.hid hra
      have HB2 := Lib.hid (al.trans hba)
      have HO := Lib.hid hoa
      clear hoa hba hra al o0 hT
      go_wp2_with (at_builtin; refine wpList_append_run rfl rfl rfl rfl HRA.out ?_)
      go_ret3
      refine show Hits3 _ _ _ _ _ _ from ?_
      rw [HE.out, HL.out, HD.out]
      refine ⟨_, ?_, HO.out.mono HB1.out.size, HB1.out.trans (HB2.out.mono HB1.out.size)⟩
      rw [show ((min (l.length - min k l.length) 65535 : Nat) : Int) = (min ((l.length : Int) - min (k : Int) (l.length : Int)) 65535) by omega]
      rfl
  · have HE := Lib.hid (show hfirstE l k = (sortedV l).2 by unfold hfirstE; rw [if_pos h0])
    have HL := Lib.hid (show hfirstL l k = [] by unfold hfirstL; rw [if_neg (by rw [HE.out]; exact h0)])
    have HD := Lib.hid (show hfirstD l k = 0 by unfold hfirstD; rw [if_neg (by rw [HE.out]; exact h0)])
    generalize (sortedV l).2 = x at *
    clear h
    go_enter Try.func21, Try.ntmps21
    go_wp2_with fail
    refine KS.out.mono ?_
    rintro e w1 ⟨rfl, hb1⟩
    have HB1 := Lib.hid hb1
    clear hb1
    go_wp2_with fail
    go_ret3
    exact show Hits3 _ _ _ _ _ _ from (by rw [HE.out, HL.out, HD.out]; exact ⟨_, rfl, World.ownsRow_nil _ _ _ _, HB1.out⟩)
end Go.Proofs.Ytafdaiidnphbaaa
