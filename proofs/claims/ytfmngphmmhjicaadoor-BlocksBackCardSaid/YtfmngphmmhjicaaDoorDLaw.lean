/- Plain laws of Split and Join. -/
import Derived.Test.YtfmngphmmhjicaaDoorDJoin
import Derived.Test.YtfmngphmmhjicaaDoorDSplitR
namespace Go.Proofs.YtfmngphmmhjicaaDoor

theorem wrong_zero {n k : Nat} {b : Int} {x y : Part} (h1 : (x.1.length : Int) = b) (h2 : 1 ≤ x.2.1 ∧ x.2.1 ≤ b ∧ 0 ≤ x.2.2) (h3 : ¬ (x.2.1 < b ∧ k + 1 < n))
    (h4 : (x.1.drop x.2.1.toNat).all (· == 0) = true) (h5 : k = 0 ∨ x.2.2 - b = y.2.2) (h6 : k * b + x.2.1 ≤ 1000) : wrongE n k b x y = 0 := by
  unfold wrongE
  rw [if_neg (by omega), if_neg (by omega), if_neg h3, if_neg (by rw [h4]; simp), if_neg (by omega), if_neg (by omega)]
theorem upTo_len (cs : List UInt8) (b : Nat) (before : Int) (m : Nat) : (upTo cs b before m).length = m := by simp [upTo]
theorem upTo_getD (cs : List UInt8) (b : Nat) (before : Int) {m k : Nat} (h : k < m) : (upTo cs b before m).getD k noPart = ((item cs b k).1, ((item cs b k).2 : Int), before + (k * b : Nat)) := by
  simp [upTo, List.getD_eq_getElem?_getD, h]
theorem pad_drop (b : Nat) (l : List UInt8) : ((padTo b l).drop (min b l.length)).all (· == 0) = true := by
  unfold padTo
  rw [List.drop_left' (by rw [List.length_take])]
  simp
theorem pad_take (b : Nat) (l : List UInt8) : (padTo b l).take (min b l.length) = l.take b := by
  unfold padTo
  rw [List.take_left' (by rw [List.length_take])]
theorem split_wrong (cs : List UInt8) (b : Nat) (before : Int) (hb : 1 ≤ b) (hlen : cs.length ≤ 1000) (hbf : 0 ≤ before) (k : Nat) (hk : k < (cs.length + b - 1) / b) :
    wrongL (upTo cs b before ((cs.length + b - 1) / b)) b k = 0 := by
  have hkb : k * b < cs.length := by
    rw [Nat.lt_div_iff_mul_lt (by omega)] at hk; omega
  have hnx : k + 1 < (cs.length + b - 1) / b → (k + 1) * b < cs.length := fun h => by
    rw [Nat.lt_div_iff_mul_lt (by omega)] at h; omega
  unfold wrongL
  rw [upTo_len, upTo_getD cs b before hk, upTo_getD cs b before (k := k - 1) (by omega)]
  have e1 : (item cs b k).2 = min b (cs.length - k * b) := rfl
  have e2 : (item cs b k).1 = padTo b (cs.drop (k * b)) := rfl
  have hl : (cs.drop (k * b)).length = cs.length - k * b := List.length_drop
  refine wrong_zero (by simp only [e2, length_padTo]) ⟨by simp only [e1]; omega, by simp only [e1]; omega, by simp only; omega⟩ ?_ ?_ ?_ ?_
  · simp only [e1]
    rintro ⟨h1, h2⟩
    have := hnx h2
    rw [Nat.add_mul] at this
    omega
  · simp only [e1, e2, Int.toNat_natCast]
    rw [← hl]
    exact pad_drop b _
  · simp only
    by_cases h0 : k = 0
    · exact .inl h0
    · obtain ⟨j, rfl⟩ : ∃ j, k = j + 1 := ⟨k - 1, by omega⟩
      right
      rw [Nat.add_sub_cancel, Nat.add_mul]
      push_cast
      omega
  · simp only [e1]
    have : ((k * b : Nat) : Int) = (k : Int) * (b : Int) := by push_cast; rfl
    omega
theorem catL_append (a b : List Part) : catL (a ++ b) = catL a ++ catL b := by simp [catL]
theorem catL_upTo (cs : List UInt8) (b : Nat) (before : Int) : ∀ k, catL (upTo cs b before k) = cs.take (k * b)
  | 0 => by simp [upTo, catL]
  | k + 1 => by
    have hl : (cs.drop (k * b)).length = cs.length - k * b := List.length_drop
    rw [upTo_succ, catL_append, catL_upTo cs b before k]
    have e : catL [((item cs b k).1, ((item cs b k).2 : Int), before + (k * b : Nat))] = (cs.drop (k * b)).take b := by
      simp only [catL, List.flatMap_cons, List.flatMap_nil, List.append_nil, Int.toNat_natCast, item]
      rw [← hl]
      exact pad_take b _
    rw [e, Nat.add_mul, Nat.one_mul, List.take_add]
theorem join_parts (cs : List UInt8) (b before : Int) (h : splitE cs.length b before = 0) : joinV (parts cs b before) b = (cs, 0, 0) := by
  obtain ⟨h1, h2, h3⟩ := splitE_zero h
  obtain ⟨hok, h4, h5⟩ := lenE_zero h1
  obtain ⟨n, rfl⟩ : ∃ n : Nat, b = n := ⟨b.toNat, by rcases okB_cases hok with h | h | h | h | h <;> omega⟩
  obtain ⟨n1, n16⟩ := okB_range hok
  have e : parts cs n before = upTo cs n before ((cs.length + n - 1) / n) := by
    rw [← parts_upTo (by omega)]; simp [parts, h]
  rw [e, join_ok hok (fun j hj => split_wrong cs n before (by omega) (by omega) h2 j (by rwa [upTo_len] at hj)), catL_upTo, List.take_of_length_le]
  have : cs.length < ((cs.length + n - 1) / n + 1) * n := by
    have := Nat.lt_div_mul_add (a := cs.length + n - 1) (b := n) (by omega)
    rw [Nat.add_mul]; omega
  have h6 := Nat.div_add_mod (cs.length + n - 1) n
  have h7 := Nat.mod_lt (cs.length + n - 1) (show n > 0 by omega)
  rw [Nat.mul_comm] at h6
  omega

theorem parts_ok (cs : List UInt8) (b before : Int) (h : splitE cs.length b before = 0) : (parts cs b before).length ≤ 1000 ∧ ∀ p ∈ parts cs b before, okPart p := by
  obtain ⟨h1, h2, h3⟩ := splitE_zero h
  obtain ⟨hok, h4, h5⟩ := lenE_zero h1
  obtain ⟨n, rfl⟩ : ∃ n : Nat, b = n := ⟨b.toNat, by rcases okB_cases hok with h | h | h | h | h <;> omega⟩
  obtain ⟨n1, n16⟩ := okB_range hok
  have e : parts cs n before = upTo cs n before ((cs.length + n - 1) / n) := by
    rw [← parts_upTo (by omega)]; unfold parts; rw [if_pos h, Int.toNat_natCast]
  have hc : (cs.length + n - 1) / n ≤ cs.length := by
    rw [Nat.div_le_iff_le_mul_add_pred (by omega)]
    have : cs.length ≤ n * cs.length := Nat.le_mul_of_pos_left _ (by omega)
    omega
  rw [e]
  refine ⟨by rw [upTo_len]; omega, fun p hp => ?_⟩
  unfold upTo at hp
  obtain ⟨i, hi, rfl⟩ := List.mem_map.1 hp
  have hi' := List.mem_range.1 hi
  rw [Nat.lt_div_iff_mul_lt (by omega)] at hi'
  have hib : i * n ≤ cs.length + n := by omega
  refine ⟨by rw [show (item cs n i).1 = padTo n (cs.drop (i * n)) from rfl, length_padTo]; omega, ?_, ?_⟩
  · have hmn : min n (cs.length - i * n) ≤ n := Nat.min_le_left _ _
    show -9223372036854775808 ≤ ((min n (cs.length - i * n) : Nat) : Int) ∧ ((min n (cs.length - i * n) : Nat) : Int) ≤ 9223372036854775807
    generalize min n (cs.length - i * n) = u at *
    omega
  · show -9223372036854775808 ≤ before + ((i * n : Nat) : Int) ∧ before + ((i * n : Nat) : Int) ≤ 9223372036854775807
    obtain ⟨t, ht⟩ : ∃ t, i * n = t := ⟨_, rfl⟩
    rw [ht] at hib ⊢
    omega

theorem back_len {L : List Part} {b : Nat} (h : ∀ k, k < L.length → wrongL L b k = 0) : ∀ k, k < L.length → (catL (L.take k)).length = k * b
  | 0, _ => by simp [catL]
  | k + 1, hk => by
    obtain ⟨h1, h2, h3, h4, h5, _⟩ := wrong_ok (by omega) (h k (by omega))
    have hr : (L[k]'(by omega)).2.1 = b := by omega
    rw [catL_take (by omega), List.length_append, back_len h k (by omega), List.length_take, hr, Int.toNat_natCast, Nat.add_mul]
    omega
theorem back_drop {L : List Part} {b : Nat} (hb : 1 ≤ b) (h : ∀ k, k < L.length → wrongL L b k = 0) (k : Nat) (hk : k < L.length) : (catL L).drop (k * b) = L[k].1.take L[k].2.1.toNat ++ catL (L.drop (k + 1)) := by
  have e : catL L = catL (L.take k) ++ catL (L.drop k) := by rw [← catL_append, List.take_append_drop]
  rw [e, List.drop_left' (back_len h k hk), List.drop_eq_getElem_cons hk]
  rfl
theorem back_total {L : List Part} {b : Nat} (hb : 1 ≤ b) (h : ∀ k, k < L.length → wrongL L b k = 0) (hn : 0 < L.length) : (catL L).length = (L.length - 1) * b + (L[L.length - 1]'(by omega)).2.1.toNat ∧ (L.length - 1) * b + (L[L.length - 1]'(by omega)).2.1.toNat ≤ 1000 := by
  have hk : L.length - 1 < L.length := by omega
  obtain ⟨h1, h2, h3, h4, h5, _, _, h8⟩ := wrong_ok hk (h _ hk)
  have e : catL L = catL (L.take (L.length - 1)) ++ catL (L.drop (L.length - 1)) := by rw [← catL_append, List.take_append_drop]
  have e2 := List.drop_eq_getElem_cons hk
  rw [List.drop_of_length_le (by omega : L.length ≤ L.length - 1 + 1)] at e2
  have e3 : (catL (L.drop (L.length - 1))).length = (L[L.length - 1]'hk).2.1.toNat := by
    rw [e2]
    simp only [catL, List.flatMap_cons, List.flatMap_nil, List.append_nil, List.length_take]
    omega
  refine ⟨by rw [e, List.length_append, back_len h _ hk, e3], ?_⟩
  have h9 : ((L.length - 1 : Nat) : Int) * (b : Int) = (((L.length - 1) * b : Nat) : Int) := by push_cast; rfl
  omega
theorem back_before {L : List Part} {b : Nat} (h : ∀ k, k < L.length → wrongL L b k = 0) : ∀ k (hk : k < L.length), L[k].2.2 = (L.getD 0 noPart).2.2 + (k * b : Nat)
  | 0, hk => by simp [List.getD_eq_getElem?_getD, hk]
  | k + 1, hk => by
    obtain ⟨_, _, _, _, _, _, h7, _⟩ := wrong_ok hk (h _ hk)
    have ih := back_before h k (by omega)
    rw [Nat.add_sub_cancel, List.getD_eq_getElem?_getD (i := k), List.getElem?_eq_getElem (by omega)] at h7
    simp only [Option.getD_some] at h7
    rw [Nat.add_mul]
    push_cast
    push_cast at ih
    omega
theorem back_count {L : List Part} {b : Nat} (hb : 1 ≤ b) (h : ∀ k, k < L.length → wrongL L b k = 0) : ((catL L).length + b - 1) / b = L.length := by
  by_cases hn : L.length = 0
  · have : L = [] := List.length_eq_zero_iff.1 hn
    subst this
    simp only [catL, List.flatMap_nil, List.length_nil, Nat.zero_add]
    exact Nat.div_eq_of_lt (by omega)
  · obtain ⟨e, _⟩ := back_total hb h (by omega)
    have hk : L.length - 1 < L.length := by omega
    obtain ⟨h1, h2, h3, _⟩ := wrong_ok hk (h _ hk)
    obtain ⟨r, hrr⟩ : ∃ r : Nat, (L[L.length - 1]'hk).2.1 = r := ⟨(L[L.length - 1]'hk).2.1.toNat, by omega⟩
    rw [hrr] at h2 h3 e
    rw [Int.toNat_natCast] at e
    have hr : 1 ≤ r ∧ r ≤ b := by omega
    rw [e]
    obtain ⟨n, hn2⟩ : ∃ n, L.length = n + 1 := ⟨L.length - 1, by omega⟩
    rw [hn2, Nat.add_sub_cancel]
    refine Nat.div_eq_of_lt_le ?_ ?_
    · rw [Nat.add_mul]; omega
    · rw [Nat.add_mul, Nat.add_mul]; omega
theorem back_parts {L : List Part} {b : Nat} (hb : 1 ≤ b) (h : ∀ k, k < L.length → wrongL L b k = 0) : L = upTo (catL L) b (L.getD 0 noPart).2.2 L.length := by
  refine List.ext_getElem (by rw [upTo_len]) fun k hk hk2 => ?_
  have hd := back_drop hb h k hk
  have hbf := back_before h k hk
  obtain ⟨t1, t2⟩ := back_total hb h (by omega)
  obtain ⟨h1, h2, h3, h4, h5, h6, _⟩ := wrong_ok hk (h k hk)
  have hq := upTo_getD (catL L) b (L.getD 0 noPart).2.2 hk
  rw [List.getD_eq_getElem?_getD, List.getElem?_eq_getElem hk2] at hq
  simp only [Option.getD_some] at hq
  rw [hq, ← hbf]
  have hl := congrArg List.length hd
  rw [List.length_drop, List.length_append, List.length_take] at hl
  have hrest : k + 1 = L.length → catL (L.drop (k + 1)) = [] := fun e => by rw [List.drop_of_length_le (by omega)]; rfl
  generalize L[k] = x at *
  obtain ⟨x, r, f⟩ := x
  simp only at h1 h2 h3 h5 h6 hd hl ⊢
  obtain ⟨rn, rfl⟩ : ∃ rn : Nat, r = rn := ⟨r.toNat, by omega⟩
  rw [Int.toNat_natCast] at h6 hd hl
  refine Prod.ext ?_ (Prod.ext ?_ rfl)
  · show x = padTo b ((catL L).drop (k * b))
    rw [hd]
    rcases h5 with h5 | h5
    · have e : x.take rn = x := List.take_of_length_le (by omega)
      unfold padTo
      rw [e, List.take_left' (by omega), List.length_append, Nat.sub_eq_zero_of_le (by omega)]
      simp
    · rw [hrest h5, List.append_nil]
      unfold padTo
      rw [List.take_of_length_le (by rw [List.length_take]; omega), List.length_take]
      have e : x.drop rn = List.replicate (b - min rn x.length) 0 := by
        rw [List.eq_replicate_iff]
        refine ⟨by rw [List.length_drop]; omega, fun y hy => ?_⟩
        have := List.all_eq_true.1 h6 y hy
        simpa using this
      rw [← e, List.take_append_drop]
  · show (rn : Int) = ((min b ((catL L).length - k * b) : Nat) : Int)
    rcases h5 with h5 | h5
    · omega
    · rw [hrest h5, List.length_nil] at hl
      omega
theorem back_split {L : List Part} {b : Nat} (hb : 1 ≤ b) (h : ∀ k, k < L.length → wrongL L b k = 0) (hn : L.length ≤ 1000) (hbo : okB (b : Int) = true) (h0 : 0 ≤ (L.getD 0 noPart).2.2) (h1 : (L.getD 0 noPart).2.2 ≤ 1000000) :
    splitE (catL L).length b (L.getD 0 noPart).2.2 = 0 ∧ parts (catL L) b (L.getD 0 noPart).2.2 = L := by
  have hlen : (catL L).length ≤ 1000 := by
    by_cases h : L.length = 0
    · have : L = [] := List.length_eq_zero_iff.1 h
      subst this; simp [catL]
    · obtain ⟨e, e2⟩ := back_total hb (by assumption) (by omega)
      omega
  have hs : splitE (catL L).length b (L.getD 0 noPart).2.2 = 0 := by
    unfold splitE
    rw [if_pos (lenE_ok hbo (by omega) (by omega)), if_neg (by omega)]
  refine ⟨hs, ?_⟩
  have e : parts (catL L) b (L.getD 0 noPart).2.2 = upTo (catL L) b (L.getD 0 noPart).2.2 (((catL L).length + b - 1) / b) := by
    rw [← parts_upTo (by omega)]; unfold parts; rw [if_pos hs, Int.toNat_natCast]
  rw [e, back_count hb h]
  exact (back_parts hb h).symm
end Go.Proofs.YtfmngphmmhjicaaDoor
