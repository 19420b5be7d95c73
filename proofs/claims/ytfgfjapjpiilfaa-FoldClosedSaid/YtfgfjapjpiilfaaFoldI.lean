/- fold.far, places: the iterator. -/
import Derived.Test.YtfgfjapjpiilfaaFoldZ
import Derived.Test.YtfgfjapjpiilfaaRange
import Derived.Stop.RegionWithIn
namespace Go.Proofs.Ytfgfjapjpiilfaa
open Go.RowKit Go.Shelf
attribute [local go_sem] Oper.semAt_some
theorem far_p (text s : List UInt8) (w : World) (ht : text.length ≤ maxLen) (hs : s.length ≤ maxLen) :
    Calls Try.prog 44 #[.string (str text), .string (str s)] w fun e w' => e = .returned (.bool (far text s)) ∧ w = w' := by
  have hst := size_str text
  have hss := size_str s
  unfold maxLen at ht hs
  by_cases h1 : 512 < s.length
  · have t1 : (512 : Int) < (s.length : Int) := by omega
    have e : far text s = true := by unfold far; rw [decide_eq_true h1]; rfl
    go_enter Try.func44, Try.ntmps44
    go_wp2_with fail
    go_ret
    exact ⟨by first | rfl | (rw [e]; rfl), rfl⟩
  · have t1 : ¬ (512 : Int) < (s.length : Int) := by omega
    by_cases h2 : 4096 < text.length
    · have t2 : (4096 : Int) < (text.length : Int) := by omega
      have e : far text s = true := by unfold far; rw [decide_eq_true h2, Bool.or_true]
      go_enter Try.func44, Try.ntmps44
      go_wp2_with fail
      go_ret
      exact ⟨by first | rfl | (rw [e]; rfl), rfl⟩
    · have t2 : ¬ (4096 : Int) < (text.length : Int) := by omega
      have e : far text s = false := by unfold far; rw [decide_eq_false h1, decide_eq_false h2]; rfl
      go_enter Try.func44, Try.ntmps44
      go_wp2_with fail
      go_ret
      exact ⟨by first | rfl | (rw [e]; rfl), rfl⟩

theorem places_p (text s : ByteArray) (w : World) :
    Calls Try.prog 45 #[.string text, .string s] w fun e w' =>
      e = .returned (.func (.func 59) #[] #[.pointer (some ⟨w.heap.size + 1, 0, none⟩), .pointer (some ⟨w.heap.size, 0, none⟩)]) ∧
      w' = (w.alloc (.cells #[.string text] 9)).alloc (.cells #[.string s] 9) := by
  go_enter Try.func45, Try.ntmps45
  go_wp2
  go_ret
  exact ⟨rfl, rfl⟩

def encPlace (x : Nat) : Array Value := #[.int .i64 (x : Int)]
theorem allTo_prefix {text s : List UInt8} {k K : Nat} (h : k < K) (hd : at4 text s k = true) : allTo text s k ++ [k] <+: allTo text s K := by
  rw [← allTo_yes hd]
  unfold allTo
  obtain ⟨m, rfl⟩ : ∃ m, K = k + 1 + m := ⟨K - (k + 1), by omega⟩
  have e : List.range (k + 1 + m) = List.range (k + 1) ++ (List.range m).map (k + 1 + ·) := List.range_add
  rw [e, List.filter_append]
  exact List.prefix_append _ _

/-- what a round leaves: it goes on, or it has said 'no more' -/
def YBack (J Jx : List Nat → World → Prop) (Bs Bt : Nat) (pre : List Nat) (W1 W' : World) (bb : Bool) : Prop :=
  (bb = true ∧ J pre W' ∧ W1.heap.size ≤ W'.heap.size ∧ W'.heap[Bs]? = W1.heap[Bs]? ∧ W'.heap[Bt]? = W1.heap[Bt]?) ∨ (bb = false ∧ Jx pre W')

set_option maxRecDepth 100000 in
set_option maxHeartbeats 2000000 in
theorem places_body (text s : List UInt8) (ht : text.length ≤ 4096) (hs : s.length ≤ 512) (n l Bs Bt : Nat) (J Jx : List Nat → World → Prop)
    (hJ : ∀ p A B, J p A → Below A.heap.size A B → J p B)
    (hY : ∀ pre x W1, J pre W1 → pre ++ [x] <+: allTo text s (text.length + 1 - s.length) → YieldAt Fence.wide (n - 1) Try.prog l (encPlace x) W1 fun e W' =>
      ∃ bb : Bool, e = .returned (.bool bb) ∧ Hid (YBack J Jx Bs Bt (pre ++ [x]) W1 W' bb))
    (W : World) (hbs : Boxed W Bs 9 (.string (str s))) (hbt : Boxed W Bt 9 (.string (str text))) (h0 : J [] W) :
    CallsIn Fence.wide n Try.prog 59 #[.func (.yield l) #[] #[], .pointer (some ⟨Bs, 0, none⟩), .pointer (some ⟨Bt, 0, none⟩)] W fun e W' =>
      (∃ v, e = .returned v) ∧ (J (allTo text s (text.length + 1 - s.length)) W' ∨ ∃ pre, pre <+: allTo text s (text.length + 1 - s.length) ∧ Jx pre W') := by
  have hss := size_str s
  have hst := size_str text
  refine callsIn_of_wp Try.func59 rfl trivial ?_ rfl
  simp only [Try.ntmps59, List.size_toArray, List.length_cons, List.length_nil, Nat.reduceAdd, Nat.reduceSub, Array.replicate_succ, Array.replicate_zero, List.push_toArray, List.append_toArray, List.nil_append, List.cons_append]
  gi_wp2
  gi_loopw [4] (fun iv wr => ∃ k : Nat, k ≤ text.length + 1 - s.length ∧ iv = .int .i64 (k : Nat) ∧ Boxed wr Bs 9 (.string (str s)) ∧ Boxed wr Bt 9 (.string (str text)) ∧ J (allTo text s k) wr)
    (fun iv _ => text.length + 1 - s.length - (intOf iv).toNat)
  case atStart => exact ⟨0, by omega, rfl, hbs, hbt, by simpa [allTo] using h0⟩
  case round =>
    obtain ⟨k, hk, rfl, hsk, htk, hJk⟩ := hrel
    have c1 := hsk.cell
    have c2 := htk.cell
    by_cases hlt : k + s.length ≤ text.length
    · have i1 : (0 : Int) ≤ (k : Int) := by omega
      have i2 : (k : Int) + (s.length : Int) ≤ (text.length : Int) := by omega
      have i3 : (k : Int) ≤ (k : Int) + (s.length : Int) := by omega
      have i4 : ((k : Int) + (s.length : Int)).toNat = k + s.length := by omega
      have hp := piece text k s.length
      have hlen : ((text.drop k).take s.length).length ≤ maxLen := by unfold maxLen; simp; omega
      have hlen2 : s.length ≤ maxLen := by unfold maxLen; omega
      have hc := fun w => alike_p ((text.drop k).take s.length) s w hlen hlen2
      have ls := hsk.lt
      have lt := htk.lt
      clear hlen hlen2
      have BS := Lib.hid (fun (w1 : World) (hb : Below wr.drew.heap.size wr.drew w1) => show Boxed w1 Bs 9 (.string (str s)) from (hb.block Bs ls).trans hsk)
      have BT := Lib.hid (fun (w1 : World) (hb : Below wr.drew.heap.size wr.drew w1) => show Boxed w1 Bt 9 (.string (str text)) from (hb.block Bt lt).trans htk)
      have HJ := Lib.hid (fun (w1 : World) (hb : Below wr.drew.heap.size wr.drew w1) => hJ _ wr w1 hJk ⟨hb.os, hb.tape, hb.output, hb.size, hb.block⟩)
      cases hD : at4 text s k with
      | false =>
        have HY := Lib.hid (allTo_no hD)
        have HC := Lib.hid (fun w => by have := hc w; rw [show alikeL ((text.drop k).take s.length) s = false from hD] at this; exact this)
        clear hc hD
        gi_wp2
        have hwr : IntKind.i64.wrap ((k : Int) + (s.length : Int)) = (k : Int) + (s.length : Int) := IntWalk.i64_in _ (by omega)
        first | gi_region_with (first | (refine ⟨trivial, fun h => (by cases h), ?_⟩; gi_at_call 18; refine (callsIn_wide.2 (HC.out _)).mono ?_; rintro e w1 ⟨rfl, hb1⟩; have HB1 := Lib.hid hb1; clear hb1) | (refine ⟨fun f h => (by cases h), ?_⟩)) | fail
        all_goals
          clear hwr
          gi_wp2
          exact ⟨⟨k + 1, by omega, by go_num, BS.out _ HB1.out, BT.out _ HB1.out, by rw [HY.out]; exact HJ.out _ HB1.out⟩, by simp [intOf]; omega⟩
      | true =>
        have HY := Lib.hid (allTo_yes hD)
        have HP := Lib.hid (allTo_prefix (K := text.length + 1 - s.length) (by omega) hD)
        have HC := Lib.hid (fun w => by have := hc w; rw [show alikeL ((text.drop k).take s.length) s = true from hD] at this; exact this)
        clear hc hD
        gi_wp2
        have hwr : IntKind.i64.wrap ((k : Int) + (s.length : Int)) = (k : Int) + (s.length : Int) := IntWalk.i64_in _ (by omega)
        first | gi_region_with (first | (refine ⟨trivial, fun h => (by cases h), ?_⟩; gi_at_call 18; refine (callsIn_wide.2 (HC.out _)).mono ?_; rintro e w1 ⟨rfl, hb1⟩; have HB1 := Lib.hid hb1; clear hb1; obtain ⟨fn, tmps, assign, body, hy, hR⟩ := hY _ k w1 (HJ.out _ HB1.out) HP.out; simp only [encPlace] at hy) | (refine ⟨fun h => (by cases h), hR.mono ?_⟩; rintro e w2 ⟨bb, rfl, HB2⟩)) | fail
        all_goals
          clear hwr
          cases bb
          · gi_wp2
            refine bodyPost_ret (results_none rfl _ _ _) rfl ?_
            rcases HB2.out with ⟨h, _⟩ | ⟨_, hx⟩
            · cases h
            · exact ⟨⟨_, rfl⟩, .inr ⟨_, HP.out, hx⟩⟩
          · have hb2 : J (allTo text s k ++ [k]) w2 ∧ Boxed w2 Bs 9 (.string (str s)) ∧ Boxed w2 Bt 9 (.string (str text)) := by
              rcases HB2.out with ⟨_, h1, _, h2, h3⟩ | ⟨h, _⟩
              · exact ⟨h1, h2.trans (BS.out _ HB1.out), h3.trans (BT.out _ HB1.out)⟩
              · cases h
            have HB3 := Lib.hid hb2
            clear hb2
            gi_wp2
            exact ⟨⟨k + 1, by omega, by go_num, HB3.out.2.1, HB3.out.2.2, by rw [HY.out]; exact HB3.out.1⟩, by simp [intOf]; omega⟩
    · have hk2 : allTo text s (text.length + 1 - s.length) = allTo text s k := by rw [show text.length + 1 - s.length = k by omega]
      have HK := Lib.hid hk2
      clear hk2
      gi_wp2
      go_end0
      exact ⟨⟨_, rfl⟩, .inl (by rw [HK.out]; exact hJk)⟩

theorem places_iter (text s : List UInt8) (ht : text.length ≤ 4096) (hs : s.length ≤ 512) (Bs Bt : Nat) (w : World) (hbs : Boxed w Bs 9 (.string (str s))) (hbt : Boxed w Bt 9 (.string (str text))) :
    Iter Try.prog 59 #[.pointer (some ⟨Bs, 0, none⟩), .pointer (some ⟨Bt, 0, none⟩)] encPlace (fun A B => Below A.heap.size A B)
      (fun A B => A.heap.size ≤ B.heap.size ∧ B.heap[Bs]? = A.heap[Bs]? ∧ B.heap[Bt]? = A.heap[Bt]?) (allTo text s (text.length + 1 - s.length)) w := by
  intro n l J Jx W hW hJ hJx hY h0
  refine places_body text s ht hs n l Bs Bt J Jx hJ (fun pre x W1 h1 h2 => (hY pre x W1 h1 h2).mono ?_) W ((hW.block Bs hbs.lt).trans hbs) ((hW.block Bt hbt.lt).trans hbt) h0
  rintro e W' (⟨rfl, h1, h2⟩ | ⟨rfl, h1⟩)
  · exact ⟨true, rfl, Lib.hid (.inl ⟨rfl, h1, h2⟩)⟩
  · exact ⟨false, rfl, Lib.hid (.inr ⟨rfl, h1⟩)⟩

end Go.Proofs.Ytfgfjapjpiilfaa
