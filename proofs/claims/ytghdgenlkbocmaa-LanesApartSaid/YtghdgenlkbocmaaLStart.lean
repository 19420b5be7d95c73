/- Layer 17, the program: Starts. -/
import Derived.Test.YtghdgenlkbocmaaLSet
import Derived.Test.YtghdgenlkbocmaaLSpotsR
import Derived.Test.YtghdgenlkbocmaaLFind
import Derived.Laws.EntriesVeiled
namespace Go.Proofs.Ytghdgenlkbocmaa
open Go.RowKit

/-- the memory of Starts and Ends: the plan, the row of positions, the function that sets one -/
structure EM (w : World) (W : Int) (v : Value) (R : Nat) (ns : List Int) (wr : World) : Prop where
  plan : PAt wr w.heap.size (.int .i64 W) v
  ones : Ones R (R + 2) ns wr
  fn : wr.heap[R + 1]? = some (.cells #[.func (.func 43) #[.pointer (some ⟨R, 0, none⟩)] #[]] 70 (0, 0))
  base : w.heap.size < R
  bel : Below w.heap.size w wr
theorem EM.keep {w wr w' : World} {W : Int} {v : Value} {R N : Nat} {ns : List Int} (h : EM w W v R ns wr) (hb : Below N wr w') (hN : N = wr.heap.size) : EM w W v R ns w' := by
  subst hN
  exact ⟨h.plan.below hb h.plan.lt, h.ones.keep hb rfl, (hb.block _ (Array.getElem?_eq_some_iff.1 h.fn).1).trans h.fn, h.base, h.bel.trans (hb.mono h.bel.size)⟩
theorem EM.alloc {w wr : World} {W : Int} {v : Value} {R : Nat} {ns : List Int} (h : EM w W v R ns wr) (o : Obj) : EM w W v R ns (wr.alloc o) := h.keep ((Below.refl _ _).alloc (Nat.le_refl _) _) rfl
theorem EM.but {w wr w' : World} {W : Int} {v : Value} {R : Nat} {ns ns' : List Int} (h : EM w W v R ns wr) (hb : ButR R (R + 2) wr w') (ho : Ones R (R + 2) ns' w') : EM w W v R ns' w' :=
  ⟨(hb.bel.block _ h.base).trans h.plan, ho, (hb.rest _ (by omega) (by omega)).trans h.fn, h.base, h.bel.trans (hb.bel.mono (Nat.le_of_lt h.base))⟩
theorem EM.fcell {w wr : World} {W : Int} {v : Value} {R : Nat} {ns : List Int} (h : EM w W v R ns wr) : wr.cell? ⟨R + 1, 0, none⟩ = some (.func (.func 43) #[.pointer (some ⟨R, 0, none⟩)] #[]) ∧ R + 1 < wr.heap.size := ⟨by simp [World.cell?, h.fn], (Array.getElem?_eq_some_iff.1 h.fn).1⟩

set_option maxRecDepth 100000 in
set_option maxHeartbeats 1000000 in
theorem startDo_p (w : World) (W : Int) (v : Value) (R : Nat) (ns : List Int) (x : Ln) (wr : World) (h : EM w W v R ns wr) (hn : ns.length ≤ 100000) (h0 : 0 ≤ x.2.1) (h1 : x.2.1 ≤ 256) :
    Calls Try.prog 52 #[.agg #[.int .i64 x.1, .int .i64 x.2.1, .int .i64 x.2.2], .pointer (some ⟨R + 1, 0, none⟩)] wr fun e w' => e = .returned (.tuple #[]) ∧ EM w W v R (ns ++ [x.2.1]) w' := by
  obtain ⟨c0, c1⟩ := h.fcell
  have HM := Lib.hid (h.alloc (.cells #[.int .i64 x.1, .int .i64 x.2.1, .int .i64 x.2.2] 55))
  have K := Lib.hid (fun wr h => set_p R (R + 2) ns x.1 x.2.1 x.2.2 0 wr h hn (by omega) (by omega))
  clear h
  go_enter Try.func52, Try.ntmps52
  go_wp2_with fail
  refine (K.out _ HM.out.ones).mono ?_
  rintro e w1 ⟨rfl, ho, hb⟩
  have HM1 := Lib.hid (HM.out.but hb ho)
  clear ho hb c0
  go_wp2_with fail
  refine bodyPost_end (v := .tuple #[]) (by simp [results, Try.results52, go_sem]) rfl ?_
  have := HM1.out
  rw [Int.add_zero] at this
  exact ⟨rfl, this⟩

theorem startIs_p (x : Ln) (w : World) : Calls Try.prog 51 #[.agg #[.int .i64 x.1, .int .i64 x.2.1, .int .i64 x.2.2]] w fun e w' => e = .returned (.bool true) ∧ Below w.heap.size w w' := by
  go_enter Try.func51, Try.ntmps51
  go_wp2_with fail
  go_ret
  exact ⟨rfl, (Below.refl _ _).alloc (Nat.le_refl _) _⟩

theorem take_map {α : Type} (f : Ln → α) {l : List Ln} {k : Nat} (h : k < l.length) : (l.take (k + 1)).map f = (l.take k).map f ++ [f l[k]] := by
  rw [List.take_succ_eq_append_getElem h, List.map_append]; rfl

set_option maxRecDepth 100000 in
set_option maxHeartbeats 2000000 in
theorem eachStart_p (w : World) (W : Int) (v : Value) (l : List Ln) (R : Nat) (wr : World) (hv : Lanes w v l) (hG : Good W l) (h : EM w W v R [] wr) :
    Calls Try.prog 50 #[v, .func (.func 51) #[] #[], .func (.func 52) #[] #[.pointer (some ⟨R + 1, 0, none⟩)]] wr fun e w' => e = .returned (.tuple #[]) ∧ EM w W v R (l.map (·.2.1)) w' := by
  obtain ⟨a, cap, rfl⟩ := hv.form
  have hm := Row.max hv
  have hs := hG.short
  have HV := Lib.hid hv
  have HG := Lib.hid hG
  have HM := Lib.hid h
  clear hv hG h
  go_enter Try.func50, Try.ntmps50
  go_wp2_with fail
  go_loopw [10] (fun iv wx => ∃ k : Nat, k ≤ l.length ∧ iv = .int .i64 (k : Nat) ∧ EM w W (.slice a l.length cap) R ((l.take k).map (·.2.1)) wx) (fun iv _ => l.length - (intOf iv).toNat)
  case atStart => exact ⟨0, by omega, rfl, HM.out⟩
  case round =>
    obtain ⟨k, hk, rfl, hE⟩ := hrel
    have HE := Lib.hid hE
    have i0 : (0 : Int) ≤ (k : Int) := by omega
    by_cases hlt : k < l.length
    · have i1 : (k : Int) < (l.length : Int) := by omega
      obtain ⟨g, o, rfl, hg, q0, q1, q2⟩ := HV.out.at hlt
      have c0 := (hE.bel.cell (p := ⟨g, o + k * 3, none⟩) hg).trans q0
      have c1 := (hE.bel.cell (p := ⟨g, o + k * 3 + 1, none⟩) hg).trans q1
      have c2 := (hE.bel.cell (p := ⟨g, o + k * 3 + 2, none⟩) hg).trans q2
      have hx := HG.out.chain.all k hlt
      have HT := Lib.hid (take_map (·.2.1) hlt)
      have hlen : ((l.take k).map (·.2.1)).length ≤ 100000 := by simp; omega
      generalize ((l.take k).map (·.2.1)) = ns at *
      generalize l[k] = x at *
      obtain ⟨b1, b2, b3, b4, b5⟩ := hx
      clear q0 q1 q2 hE
      go_wp2_with fail
      refine (startIs_p x _).mono ?_
      rintro e w1 ⟨rfl, hb⟩
      have HE1 := Lib.hid ((HE.out.alloc (.cells #[.int .i64 x.1, .int .i64 x.2.1, .int .i64 x.2.2] 55)).keep hb rfl)
      have hcx := (hb.block _ (by simp)).trans (heap_alloc_new wr (.cells #[.int .i64 x.1, .int .i64 x.2.1, .int .i64 x.2.2] 55))
      have d0 : w1.cell? ⟨wr.heap.size, 0, none⟩ = some (.int .i64 x.1) := by simp [World.cell?, hcx]
      have d1 : w1.cell? ⟨wr.heap.size, 1, none⟩ = some (.int .i64 x.2.1) := by simp [World.cell?, hcx]
      have d2 : w1.cell? ⟨wr.heap.size, 2, none⟩ = some (.int .i64 x.2.2) := by simp [World.cell?, hcx]
      clear c0 c1 c2 hb hcx
      go_wp2_with fail
      refine (startDo_p w W _ R ns x w1 HE1.out hlen (by omega) (by omega)).mono ?_
      rintro e w2 ⟨rfl, hE2⟩
      have HE2 := Lib.hid hE2
      clear hE2 d0 d1 d2
      go_wp2_with fail
      exact ⟨⟨k + 1, by omega, by go_num, by rw [HT.out]; exact HE2.out⟩, by simp [intOf]; omega⟩
    · obtain rfl : k = l.length := by omega
      have i1 : ¬ (l.length : Int) < (l.length : Int) := by omega
      rw [List.take_length] at HE
      clear hE hlt
      go_wp2_with fail
      refine bodyPost_end (v := .tuple #[]) (by simp [results, Try.results50, go_sem]) rfl ?_
      exact ⟨rfl, HE.out⟩
end Go.Proofs.Ytghdgenlkbocmaa
