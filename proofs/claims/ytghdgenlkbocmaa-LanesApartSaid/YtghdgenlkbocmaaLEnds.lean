/- Layer 17, the program: Ends. -/
import Derived.Test.YtghdgenlkbocmaaLStartP
namespace Go.Proofs.Ytghdgenlkbocmaa
open Go.RowKit

structure EN (w : World) (W rule : Int) (v : Value) (R : Nat) (ns : List Int) (wr : World) : Prop where
  em : EM w W v R ns wr
  rl : wr.heap[w.heap.size + 1]? = some (.cells #[.int .i64 rule] 3 (0, 0))
  base2 : w.heap.size + 1 < R
theorem EN.keep {w wr w' : World} {W rule : Int} {v : Value} {R N : Nat} {ns : List Int} (h : EN w W rule v R ns wr) (hb : Below N wr w') (hN : N = wr.heap.size) : EN w W rule v R ns w' := by
  subst hN
  exact ⟨h.em.keep hb rfl, (hb.block _ (Array.getElem?_eq_some_iff.1 h.rl).1).trans h.rl, h.base2⟩
theorem EN.alloc {w wr : World} {W rule : Int} {v : Value} {R : Nat} {ns : List Int} (h : EN w W rule v R ns wr) (o : Obj) : EN w W rule v R ns (wr.alloc o) := h.keep ((Below.refl _ _).alloc (Nat.le_refl _) _) rfl
theorem EN.but {w wr w' : World} {W rule : Int} {v : Value} {R : Nat} {ns ns' : List Int} (h : EN w W rule v R ns wr) (hb : ButR R (R + 2) wr w') (ho : Ones R (R + 2) ns' w') : EN w W rule v R ns' w' :=
  ⟨h.em.but hb ho, (hb.bel.block _ h.base2).trans h.rl, h.base2⟩
theorem EN.rcell {w wr : World} {W rule : Int} {v : Value} {R : Nat} {ns : List Int} (h : EN w W rule v R ns wr) : wr.cell? ⟨w.heap.size + 1, 0, none⟩ = some (.int .i64 rule) := by simp [World.cell?, h.rl]

set_option maxRecDepth 100000 in
set_option maxHeartbeats 1000000 in
theorem endDo_p (w : World) (W rule : Int) (v : Value) (R : Nat) (ns : List Int) (x : Ln) (wr : World) (h : EN w W rule v R ns wr) (hn : ns.length ≤ 100000) (h0 : 0 ≤ x.2.1) (h1 : x.2.1 + x.2.2 ≤ 256) (h2 : 1 ≤ x.2.2) :
    Calls Try.prog 54 #[.agg #[.int .i64 x.1, .int .i64 x.2.1, .int .i64 x.2.2], .pointer (some ⟨R + 1, 0, none⟩)] wr fun e w' => e = .returned (.tuple #[]) ∧ EN w W rule v R (ns ++ [x.2.1 + x.2.2 - 1]) w' := by
  obtain ⟨c0, c1⟩ := h.em.fcell
  have HM := Lib.hid (h.alloc (.cells #[.int .i64 x.1, .int .i64 x.2.1, .int .i64 x.2.2] 55))
  have K := Lib.hid (fun wr h => set_p R (R + 2) ns x.1 x.2.1 x.2.2 (x.2.2 - 1) wr h hn (by omega) (by omega))
  clear h
  go_enter Try.func54, Try.ntmps54
  go_wp2_with fail
  refine (K.out _ HM.out.em.ones).mono ?_
  rintro e w1 ⟨rfl, ho, hb⟩
  have HM1 := Lib.hid (HM.out.but hb ho)
  clear ho hb c0
  go_wp2_with fail
  refine bodyPost_end (v := .tuple #[]) (by simp [results, Try.results54, go_sem]) rfl ?_
  have := HM1.out
  rw [← Int.add_sub_assoc] at this
  exact ⟨rfl, this⟩

set_option maxRecDepth 100000 in
theorem endIs_p (w : World) (W rule : Int) (v : Value) (R : Nat) (ns : List Int) (x : Ln) (wr : World) (h : EN w W rule v R ns wr) :
    Calls Try.prog 53 #[.agg #[.int .i64 x.1, .int .i64 x.2.1, .int .i64 x.2.2], .pointer (some ⟨w.heap.size + 1, 0, none⟩)] wr fun e w' => e = .returned (.bool (x.1 == rule)) ∧ Below wr.heap.size wr w' := by
  have c0 := h.rcell
  have hlt : w.heap.size + 1 < wr.heap.size := (Array.getElem?_eq_some_iff.1 h.rl).1
  clear h
  go_enter Try.func53, Try.ntmps53
  go_wp2_with fail
  go_ret
  exact ⟨rfl, (Below.refl _ _).alloc (Nat.le_refl _) _⟩

def endsL (l : List Ln) (rule : Int) : List Int := (l.filter fun x => x.1 == rule).map fun x => x.2.1 + x.2.2 - 1
theorem endsL_yes {l : List Ln} {rule : Int} {k : Nat} (h : k < l.length) (e : (l[k].1 == rule) = true) : endsL (l.take (k + 1)) rule = endsL (l.take k) rule ++ [l[k].2.1 + l[k].2.2 - 1] := by
  unfold endsL
  rw [List.take_succ_eq_append_getElem h, List.filter_append, List.map_append]
  simp [e]
theorem endsL_no {l : List Ln} {rule : Int} {k : Nat} (h : k < l.length) (e : (l[k].1 == rule) = false) : endsL (l.take (k + 1)) rule = endsL (l.take k) rule := by
  unfold endsL
  rw [List.take_succ_eq_append_getElem h, List.filter_append, List.map_append]
  simp [e]
theorem endsL_len (l : List Ln) (rule : Int) : (endsL l rule).length ≤ l.length := by
  unfold endsL
  rw [List.length_map]
  exact List.length_filter_le _ _

set_option maxRecDepth 100000 in
set_option maxHeartbeats 4000000 in
theorem eachEnd_p (w : World) (W rule : Int) (v : Value) (l : List Ln) (R : Nat) (wr : World) (hv : Lanes w v l) (hG : Good W l) (h : EN w W rule v R [] wr) :
    Calls Try.prog 50 #[v, .func (.func 53) #[] #[.pointer (some ⟨w.heap.size + 1, 0, none⟩)], .func (.func 54) #[] #[.pointer (some ⟨R + 1, 0, none⟩)]] wr fun e w' => e = .returned (.tuple #[]) ∧ EN w W rule v R (endsL l rule) w' := by
  obtain ⟨a, cap, rfl⟩ := hv.form
  have hm := Row.max hv
  have hs := hG.short
  have HV := Lib.hid hv
  have HG := Lib.hid hG
  have HM := Lib.hid h
  clear hv hG h
  go_enter Try.func50, Try.ntmps50
  go_wp2_with fail
  go_loopw [10] (fun iv wx => ∃ k : Nat, k ≤ l.length ∧ iv = .int .i64 (k : Nat) ∧ EN w W rule (.slice a l.length cap) R (endsL (l.take k) rule) wx) (fun iv _ => l.length - (intOf iv).toNat)
  case atStart => exact ⟨0, by omega, rfl, HM.out⟩
  case round =>
    obtain ⟨k, hk, rfl, hE⟩ := hrel
    have HE := Lib.hid hE
    have i0 : (0 : Int) ≤ (k : Int) := by omega
    by_cases hlt : k < l.length
    · have i1 : (k : Int) < (l.length : Int) := by omega
      obtain ⟨g, o, rfl, hg, q0, q1, q2⟩ := HV.out.at hlt
      have c0 := (hE.em.bel.cell (p := ⟨g, o + k * 3, none⟩) hg).trans q0
      have c1 := (hE.em.bel.cell (p := ⟨g, o + k * 3 + 1, none⟩) hg).trans q1
      have c2 := (hE.em.bel.cell (p := ⟨g, o + k * 3 + 2, none⟩) hg).trans q2
      have hx := HG.out.chain.all k hlt
      have HT1 := Lib.hid (fun e => endsL_yes (rule := rule) hlt e)
      have HT2 := Lib.hid (fun e => endsL_no (rule := rule) hlt e)
      have hlen : (endsL (l.take k) rule).length ≤ 100000 := Nat.le_trans (endsL_len _ _) (by simp; omega)
      generalize (endsL (l.take k) rule) = ns at *
      generalize l[k] = x at *
      obtain ⟨b1, b2, b3, b4, b5⟩ := hx
      clear q0 q1 q2 hE
      go_wp2_with fail
      have K1 := endIs_p w W rule _ R ns x _ (HE.out.alloc (.cells #[.int .i64 x.1, .int .i64 x.2.1, .int .i64 x.2.2] 55))
      with_reducible refine K1.mono ?_
      clear K1
      rintro e w1 ⟨rfl, hb⟩
      have HE1 := Lib.hid ((HE.out.alloc (.cells #[.int .i64 x.1, .int .i64 x.2.1, .int .i64 x.2.2] 55)).keep hb rfl)
      have hcx := (hb.block _ (by simp)).trans (heap_alloc_new wr (.cells #[.int .i64 x.1, .int .i64 x.2.1, .int .i64 x.2.2] 55))
      have d0 : w1.cell? ⟨wr.heap.size, 0, none⟩ = some (.int .i64 x.1) := by simp [World.cell?, hcx]
      have d1 : w1.cell? ⟨wr.heap.size, 1, none⟩ = some (.int .i64 x.2.1) := by simp [World.cell?, hcx]
      have d2 : w1.cell? ⟨wr.heap.size, 2, none⟩ = some (.int .i64 x.2.2) := by simp [World.cell?, hcx]
      clear c0 c1 c2 hb hcx
      cases hr : (x.1 == rule)
      · have HR := Lib.hid hr
        clear hr
        go_wp2_with fail
        exact ⟨⟨k + 1, by omega, by go_num, by rw [HT2.out HR.out]; exact HE1.out⟩, by simp [intOf]; omega⟩
      · have HR := Lib.hid hr
        clear hr
        go_wp2_with fail
        have K2 := endDo_p w W rule _ R ns x w1 HE1.out hlen (by omega) (by omega) (by omega)
        with_reducible refine K2.mono ?_
        clear K2
        rintro e w2 ⟨rfl, hE2⟩
        have HE2 := Lib.hid hE2
        clear hE2 d0 d1 d2
        go_wp2_with fail
        exact ⟨⟨k + 1, by omega, by go_num, by rw [HT1.out HR.out]; exact HE2.out⟩, by simp [intOf]; omega⟩
    · obtain rfl : k = l.length := by omega
      have i1 : ¬ (l.length : Int) < (l.length : Int) := by omega
      rw [List.take_length] at HE
      clear hE hlt
      go_wp2_with fail
      refine bodyPost_end (v := .tuple #[]) (by simp [results, Try.results50, go_sem]) rfl ?_
      exact ⟨rfl, HE.out⟩
end Go.Proofs.Ytghdgenlkbocmaa
