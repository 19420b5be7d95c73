/- Layer 17, the law's example. -/
import Derived.Test.YtghdgenlkbocmaaRefOf
import Derived.Test.YtghdgenlkbocmaaLMem
namespace Go.Proofs.Ytghdgenlkbocmaa
open Go.RowKit

set_option maxRecDepth 100000 in
set_option maxHeartbeats 1000000 in
theorem of1_r (b : UInt8) (w : World) : Calls Try.prog 63 #[.int .u8 (b.toNat : Int)] w fun e w' => e = .returned (setV (bit b.toNat)) ∧ Below w.heap.size w w' := by
  have hb0 : (0 : Int) ≤ (b.toNat : Int) := by omega
  have hb1 : (b.toNat : Int) < 256 := by have := b.toNat_lt; omega
  have K := Lib.hid (fun v w h => of_r v [b] w h)
  have hs : ofL [b] = bit b.toNat := by simp [ofL]
  rw [hs] at K
  generalize hS : bit b.toNat = s at *
  have HS0 := Lib.hid (SetAt.zero w)
  have hl : Row ((w.alloc (.cells #[.int .u64 0, .int .u64 0, .int .u64 0, .int .u64 0] 50)).alloc (.cells #[.int .u8 (b.toNat : Int)] 5)) 1 (.slice (some ⟨w.heap.size + 1, 0, none⟩) 1 1) [b].length (bcells [b]) := by
    have h := Row.lit (w.alloc (.cells #[.int .u64 0, .int .u64 0, .int .u64 0, .int .u64 0] 50)) 5 1 1 (bcells [b]) rfl (by decide)
    rw [World.size_alloc] at h
    exact h
  have HL := Lib.hid hl
  clear hs hS hl
  go_enter Try.func63, Try.ntmps63
  go_wp2_with fail
  have K1 := K.out _ _ HL.out
  with_reducible refine K1.mono ?_
  clear K1
  rintro e w1 ⟨rfl, hb⟩
  have a1 := (((HS0.out.alloc (.cells #[.int .u8 (b.toNat : Int)] 5)).below hb (by simp; omega)))
  obtain ⟨c0, c1, c2, c3⟩ := a1.cells
  obtain ⟨f0, f1, f2, f3⟩ := a1.free
  have HB := Lib.hid (((((Below.refl _ w).alloc (Nat.le_refl _) (.cells #[.int .u64 0, .int .u64 0, .int .u64 0, .int .u64 0] 50)).alloc (by simp) (.cells #[.int .u8 (b.toNat : Int)] 5))).trans (hb.mono (by simp; omega)))
  clear hb
  unfold setV setC
  go_wp2_with fail
  obtain ⟨q0, q1, q2, q3⟩ := (a1.put s).cells
  show bodyPost _ _ _ _ _ (putSet w1 w.heap.size s)
  exact bodyPost_ret (v := .agg #[.int .u64 _, .int .u64 _, .int .u64 _, .int .u64 _]) (by simp [results, Try.results63, go_sem, q0, q1, q2, q3]) rfl ⟨rfl, below_put HB.out (Nat.le_refl _) _⟩

def exR : List (List (List CSet)) := [[[bit 97, bit 98], [bit 99]], [[bit 100, bit 101, bit 102]]]
def ExP (w : World) (e : Ending) (w' : World) : Prop := ∃ v, e = .returned v ∧ Rules3 w' v exR ∧ Below w.heap.size w w'
theorem Line.lit (W : World) (t : TypeId) (l : List CSet) (hm : l.length ≤ maxLen) : Line (W.alloc (.cells (ccells l).toArray t)) (.slice (some ⟨W.heap.size, 0, none⟩) l.length l.length) l :=
  Row.lit W t 4 l.length (ccells l) (length_ccells l) hm

theorem Lines.lit1 (W : World) (t : TypeId) {u : Value} {l : List CSet} (h : Line W u l) : Lines (W.alloc (.cells #[u] t)) (.slice (some ⟨W.heap.size, 0, none⟩) 1 1) [l] :=
  ⟨[u], Row.lit W t 1 1 [u] rfl (by unfold maxLen; simp), fun i hi => match i, hi with
    | 0, _ => ⟨u, rfl, h.below ((Below.refl _ _).alloc (Nat.le_refl _) _)⟩⟩
theorem Lines.lit2 (W : World) (t : TypeId) {u v : Value} {l m : List CSet} (h : Line W u l) (h2 : Line W v m) : Lines (W.alloc (.cells #[u, v] t)) (.slice (some ⟨W.heap.size, 0, none⟩) 2 2) [l, m] :=
  ⟨[u, v], Row.lit W t 1 2 [u, v] rfl (by unfold maxLen; simp), fun i hi => match i, hi with
    | 0, _ => ⟨u, rfl, h.below ((Below.refl _ _).alloc (Nat.le_refl _) _)⟩
    | 1, _ => ⟨v, rfl, h2.below ((Below.refl _ _).alloc (Nat.le_refl _) _)⟩⟩
theorem Rules3.lit2 (W : World) (t : TypeId) {u v : Value} {l m : List (List CSet)} (h : Lines W u l) (h2 : Lines W v m) : Rules3 (W.alloc (.cells #[u, v] t)) (.slice (some ⟨W.heap.size, 0, none⟩) 2 2) [l, m] :=
  ⟨[u, v], Row.lit W t 1 2 [u, v] rfl (by unfold maxLen; simp), fun i hi => match i, hi with
    | 0, _ => ⟨u, rfl, h.below ((Below.refl _ _).alloc (Nat.le_refl _) _)⟩
    | 1, _ => ⟨v, rfl, h2.below ((Below.refl _ _).alloc (Nat.le_refl _) _)⟩⟩
theorem al (W : World) (o : Obj) : Below W.heap.size W (W.alloc o) := (Below.refl _ _).alloc (Nat.le_refl _) _

set_option maxRecDepth 100000 in
set_option maxHeartbeats 4000000 in
theorem example_r (w : World) : Calls Try.prog 35 #[] w (ExP w) := by
  have Ka := Lib.hid (fun w => of1_r 97 w)
  have Kb := Lib.hid (fun w => of1_r 98 w)
  have Kc := Lib.hid (fun w => of1_r 99 w)
  have Kd := Lib.hid (fun w => of1_r 100 w)
  have Ke := Lib.hid (fun w => of1_r 101 w)
  have Kf := Lib.hid (fun w => of1_r 102 w)
  have hR : exR = [[[bit 97, bit 98], [bit 99]], [[bit 100, bit 101, bit 102]]] := rfl
  unfold ExP
  rw [hR]
  clear hR
  simp only [show (97 : UInt8).toNat = 97 from rfl] at Ka
  simp only [show (98 : UInt8).toNat = 98 from rfl] at Kb
  simp only [show (99 : UInt8).toNat = 99 from rfl] at Kc
  simp only [show (100 : UInt8).toNat = 100 from rfl] at Kd
  simp only [show (101 : UInt8).toNat = 101 from rfl] at Ke
  simp only [show (102 : UInt8).toNat = 102 from rfl] at Kf
  generalize bit 97 = sa at *
  generalize bit 98 = sb at *
  generalize bit 99 = sc at *
  generalize bit 100 = sd at *
  generalize bit 101 = se at *
  generalize bit 102 = sf at *
  go_enter Try.func35, Try.ntmps35
  go_wp2_with fail
  refine (Ka.out _).mono ?_
  rintro e w1 ⟨rfl, hb⟩
  have HB := Lib.hid hb
  clear hb
  unfold setV setC
  go_wp2_with fail
  refine (Kb.out _).mono ?_
  rintro e w2 ⟨rfl, hb⟩
  replace HB := Lib.hid (next HB.out hb)
  clear hb
  unfold setV setC
  have HL1 := Lib.hid (Line.lit w2 50 [sa, sb] (by unfold maxLen; simp))
  go_wp2_with fail
  refine (Kc.out _).mono ?_
  rintro e w3 ⟨rfl, hb⟩
  replace HL1 := Lib.hid (HL1.out.below hb)
  replace HB := Lib.hid (next HB.out (next (al _ _) hb))
  clear hb
  unfold setV setC
  have HL2 := Lib.hid (Line.lit w3 50 [sc] (by unfold maxLen; simp))
  replace HL1 := Lib.hid (HL1.out.below (al w3 (.cells (ccells [sc]).toArray 50)))
  have HS1 := Lib.hid (Lines.lit2 _ 47 HL1.out HL2.out)
  have hz3 := World.size_alloc w3 (.cells (ccells [sc]).toArray 50)
  rw [hz3] at HS1
  clear hz3
  go_wp2_with fail
  refine (Kd.out _).mono ?_
  rintro e w4 ⟨rfl, hb⟩
  replace HS1 := Lib.hid (HS1.out.below hb)
  replace HB := Lib.hid (next HB.out (next (next (al _ _) (al _ _)) hb))
  clear hb HL1 HL2
  unfold setV setC
  go_wp2_with fail
  refine (Ke.out _).mono ?_
  rintro e w5 ⟨rfl, hb⟩
  replace HS1 := Lib.hid (HS1.out.below hb)
  replace HB := Lib.hid (next HB.out hb)
  clear hb
  unfold setV setC
  go_wp2_with fail
  refine (Kf.out _).mono ?_
  rintro e w6 ⟨rfl, hb⟩
  replace HS1 := Lib.hid (HS1.out.below hb)
  replace HB := Lib.hid (next HB.out hb)
  clear hb
  unfold setV setC
  go_wp2_with fail
  go_ret
  have a1 := Line.lit w6 50 [sd, se, sf] (by unfold maxLen; simp)
  have b1 := al w6 (.cells (ccells [sd, se, sf]).toArray 50)
  have a2 := Lines.lit1 _ 47 a1
  have b2 := al (w6.alloc (.cells (ccells [sd, se, sf]).toArray 50)) (.cells #[.slice (some ⟨w6.heap.size, 0, none⟩) 3 3] 47)
  have a3 := Rules3.lit2 _ 46 ((HS1.out.below b1).below b2) a2
  simp only [World.size_alloc] at a3
  exact ⟨_, rfl, a3, next HB.out (next (next b1 b2) (al _ _))⟩
end Go.Proofs.Ytghdgenlkbocmaa
