/- Parts of slices of bytes. -/
import Derived.Test.YtpjllppbpnkemaaPaMat
namespace Go.Proofs.Ytpjllppbpnkemaa
open Go.RowKit Go.Deep

/-- a slice within its capacity -/
def CapOk (v : Value) : Prop := ∃ a n c, v = .slice a n c ∧ n ≤ c
theorem CapOk.le {a : Option Addr} {n c : Nat} (h : CapOk (.slice a n c)) : n ≤ c := by
  obtain ⟨_, _, _, e, h⟩ := h
  cases e; exact h
theorem cap_of {H : Type} {enc : TypeId × Value → H} {P : Program} {W : World} {fuel : Nat} {t e : TypeId} {v : Value} {x : DataW H × List MemPlace} (ht : P.underlying t = some (.slice e))
    (h : DataW.trod enc P W 0 (fun _ => true) true fuel t [v] = some x) : CapOk v := by
  rcases open_slice ht h with ⟨e1, _⟩ | ⟨a, len, cap, m, n, D, Pl, e1, hb, hl, hm, hmm, _, hx⟩
  · obtain rfl : v = .slice none 0 0 := by simpa using e1
    exact ⟨_, _, _, rfl, Nat.le_refl _⟩
  · obtain rfl : v = .slice (some a) len cap := by simpa using e1
    exact ⟨_, _, _, rfl, hl⟩
theorem row_cut {w : World} {s n cap : Nat} {a : Option Addr} {xs : List Value} (h : Row w s (.slice a n cap) n xs) {lo hi : Nat} (h1 : lo ≤ hi) (h2 : hi ≤ n) (hc : n ≤ cap) :
    Row w s (.slice (if cap = lo then a else a.map (·.add (lo * s))) (hi - lo) (cap - lo)) (hi - lo) ((xs.take (hi * s)).drop (lo * s)) := by
  obtain ⟨hl, hm, a', cap', e, hn, hr⟩ := h
  cases e
  have hmul : hi * s ≤ n * s := Nat.mul_le_mul_right _ h2
  have hlen : ((xs.take (hi * s)).drop (lo * s)).length = (hi - lo) * s := by rw [List.length_drop, List.length_take, hl, Nat.sub_mul, Nat.min_eq_left hmul]
  refine ⟨hlen, by omega, _, _, rfl, fun h0 => ?_, ?_⟩
  · by_cases hcl : cap = lo
    · omega
    · rw [if_neg hcl] at h0
      cases a with
      | none => have := hn rfl; omega
      | some a => simp at h0
  · by_cases h0 : hi - lo = 0
    · exact .inl h0
    · right
      rcases hr with hr | ⟨g, o, rfl, hr⟩
      · omega
      · rw [if_neg (by omega)]
        refine ⟨g, o + lo * s, by simp [Addr.add], fun j hj => ?_⟩
        have hj2 : lo * s + j < hi * s := by rw [Nat.sub_mul] at hj; omega
        rw [List.getElem?_drop, List.getElem?_take, if_pos hj2, ← hr (lo * s + j) (by omega), Nat.add_assoc]
theorem bcells_cut (b : List UInt8) (lo hi : Nat) : ((bcells b).take (hi * 1)).drop (lo * 1) = bcells ((b.take hi).drop lo) := by
  simp only [bcells, Nat.mul_one, List.map_drop, List.map_take]
theorem bytes_cut {w : World} {a : Option Addr} {cap : Nat} {b : List UInt8} (h : Bytes w (.slice a b.length cap) b) (hc : b.length ≤ cap) {lo hi : Nat} (h1 : lo ≤ hi) (h2 : hi ≤ b.length) (L H : Int) (eL : L = lo) (eH : H = hi) :
    ∃ a' cap', (∀ w', (Instr.slice 23 (.slice a b.length cap) (some (.int .i64 L)) (some (.int .i64 H)) none).run Try.prog w' = .ok (.slice a' (hi - lo) cap') w') ∧ Bytes w (.slice a' (hi - lo) cap') ((b.take hi).drop lo) := by
  refine ⟨if cap = lo then a else a.map (·.add (lo * 1)), cap - lo, fun w' => ?_, ?_⟩
  rotate_left
  · have := row_cut h h1 h2 hc
    rw [bcells_cut] at this
    have hl : ((b.take hi).drop lo).length = hi - lo := by rw [List.length_drop, List.length_take, Nat.min_eq_left h2]
    unfold Bytes
    rw [hl]
    exact this
  · have hsz : ∀ w', (sizeOf (Try.prog.elem 23)).run Try.prog w' = .ok 1 w' := fun w' => by kernel_rfl
    rw [run_slice_lh (P := Try.prog) w' 23 a b.length cap (by kernel_rfl) .i64 .i64 L H (by omega) (by omega) (by omega), hsz]
    subst eL eH
    simp only [Result.andThen, sliced, Int.toNat_natCast]
theorem bytes_head {w : World} {a : Option Addr} {cap : Nat} {b : List UInt8} (h : Bytes w (.slice a b.length cap) b) (hc : b.length ≤ cap) {hi : Nat} (h2 : hi ≤ b.length) (H : Int) (eH : H = hi) :
    ∃ a' cap', (∀ w', (Instr.slice 23 (.slice a b.length cap) none (some (.int .i64 H)) none).run Try.prog w' = .ok (.slice a' hi cap') w') ∧ Bytes w (.slice a' hi cap') (b.take hi) := by
  refine ⟨if cap = 0 then a else a.map (·.add (0 * 1)), cap - 0, fun w' => ?_, ?_⟩
  rotate_left
  · have := row_cut h (Nat.zero_le hi) h2 hc
    rw [bcells_cut, List.drop_zero] at this
    have hl : (b.take hi).length = hi - 0 := by rw [List.length_take, Nat.min_eq_left h2]; rfl
    unfold Bytes
    rw [hl]
    exact this
  · have hsz : ∀ w', (sizeOf (Try.prog.elem 23)).run Try.prog w' = .ok 1 w' := fun w' => by kernel_rfl
    rw [run_slice_h (P := Try.prog) w' 23 a b.length cap (by kernel_rfl) .i64 H (by omega) (by omega), hsz]
    subst eH
    simp only [Result.andThen, sliced, Int.toNat_natCast]
    rfl
theorem bytes_tail {w : World} {a : Option Addr} {cap : Nat} {b : List UInt8} (h : Bytes w (.slice a b.length cap) b) (hc : b.length ≤ cap) {lo : Nat} (h1 : lo ≤ b.length) (L : Int) (eL : L = lo) :
    ∃ a' cap', (∀ w', (Instr.slice 23 (.slice a b.length cap) (some (.int .i64 L)) none none).run Try.prog w' = .ok (.slice a' (b.length - lo) cap') w') ∧ Bytes w (.slice a' (b.length - lo) cap') (b.drop lo) := by
  refine ⟨if cap = lo then a else a.map (·.add (lo * 1)), cap - lo, fun w' => ?_, ?_⟩
  rotate_left
  · have := row_cut h h1 (Nat.le_refl _) hc
    rw [bcells_cut, List.take_length] at this
    have hl : (b.drop lo).length = b.length - lo := by rw [List.length_drop]
    unfold Bytes
    rw [hl]
    exact this
  · have hsz : ∀ w', (sizeOf (Try.prog.elem 23)).run Try.prog w' = .ok 1 w' := fun w' => by kernel_rfl
    rw [run_slice_l (P := Try.prog) w' 23 a b.length cap (by kernel_rfl) .i64 L (by omega) (by omega), hsz]
    subst eL
    simp only [Result.andThen, sliced, Int.toNat_natCast]
end Go.Proofs.Ytpjllppbpnkemaa
