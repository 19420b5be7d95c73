/- How many bits of a number of 64 bits are 1: the sum of Go's library is that number. -/
import Derived.WalkKit
namespace Go.Proofs.YtooiegejchcbhaaDoor
open Go.RowKit

def popN (x n : Nat) : Nat := (List.range n).countP fun i => x.testBit i
def vl : List Nat → Nat
  | [] => 0
  | b :: t => b + 256 * vl t
def rp (m : Nat) : Nat → Nat
  | 0 => 0
  | n + 1 => m + 256 * rp m n
theorem vl_div (b : Nat) (t : List Nat) (h : b < 256) : vl (b :: t) / 256 = vl t := by rw [vl]; omega
theorem vl_bd (m : Nat) : ∀ l : List Nat, (∀ b ∈ l, b ≤ m) → 255 * vl l + m ≤ m * 256 ^ l.length
  | [], _ => by simp [vl]
  | b :: t, h => by
    have hb := h b (List.mem_cons_self ..)
    have ih := vl_bd m t (fun x hx => h x (List.mem_cons_of_mem _ hx))
    rw [List.length_cons, vl, Nat.pow_succ, ← Nat.mul_assoc]
    generalize m * 256 ^ t.length = P at *
    omega
theorem vl_add : ∀ a b : List Nat, a.length = b.length → vl (List.zipWith (· + ·) a b) = vl a + vl b
  | [], [], _ => rfl
  | [], _ :: _, h => by simp at h
  | _ :: _, [], h => by simp at h
  | x :: s, y :: t, h => by
    have ih := vl_add s t (by simpa using h)
    rw [List.zipWith_cons_cons, vl, vl, vl, ih]
    omega
theorem and_byte (a m r : Nat) (hm : m < 256) : a &&& (m + 256 * r) = ((a % 256) &&& m) + 256 * ((a / 256) &&& r) := by
  have h1 : (a &&& (m + 256 * r)) % 2 ^ 8 = (a % 2 ^ 8) &&& ((m + 256 * r) % 2 ^ 8) := Nat.and_mod_two_pow
  have h2 : (a &&& (m + 256 * r)) / 2 ^ 8 = (a / 2 ^ 8) &&& ((m + 256 * r) / 2 ^ 8) := Nat.and_div_two_pow
  have e1 : (m + 256 * r) % 2 ^ 8 = m := by omega
  have e2 : (m + 256 * r) / 2 ^ 8 = r := by omega
  rw [e1] at h1
  rw [e2] at h2
  simp only [show (2 : Nat) ^ 8 = 256 from rfl] at h1 h2
  have h3 := Nat.div_add_mod (a &&& (m + 256 * r)) 256
  rw [h1, h2] at h3
  omega
def s1 (b : Nat) : Nat := ((b / 2) &&& 85) + (b &&& 85)
def s2 (b : Nat) : Nat := ((b / 4) &&& 51) + (b &&& 51)
def s3 (b : Nat) : Nat := (b / 16 + b) &&& 15
theorem s1_low : ∀ b : Fin 256, ∀ e : Fin 2, ((b.1 / 2 + 128 * e.1) &&& 85) = ((b.1 / 2) &&& 85) := by decide +kernel
theorem s2_low : ∀ b : Fin 256, ∀ e : Fin 4, ((b.1 / 4 + 64 * e.1) &&& 51) = ((b.1 / 4) &&& 51) := by decide +kernel
theorem s3_low : ∀ b : Fin 69, ∀ e : Fin 5, ((b.1 / 16 + 16 * e.1 + b.1) &&& 15) = s3 b.1 := by decide +kernel
theorem s12_bd : ∀ b : Fin 256, s1 b.1 < 256 ∧ s2 (s1 b.1) < 69 ∧ s2 (s1 b.1) % 16 < 5 ∧ s3 (s2 (s1 b.1)) = popN b.1 8 ∧ popN b.1 8 ≤ 8 := by decide +kernel
theorem st1 : ∀ l : List Nat, (∀ b ∈ l, b < 256) → ((vl l / 2) &&& rp 85 l.length) + (vl l &&& rp 85 l.length) = vl (l.map s1)
  | [], _ => rfl
  | b :: t, h => by
    have hb := h b (List.mem_cons_self ..)
    have ih := st1 t (fun x hx => h x (List.mem_cons_of_mem _ hx))
    have hl := s1_low ⟨b, hb⟩ ⟨vl t % 2, by omega⟩
    simp only at hl
    rw [List.length_cons, List.map_cons, rp, vl, vl, and_byte _ _ _ (by decide), and_byte _ _ _ (by decide)]
    rw [show (b + 256 * vl t) / 2 % 256 = b / 2 + 128 * (vl t % 2) by omega, show (b + 256 * vl t) / 2 / 256 = vl t / 2 by omega, show (b + 256 * vl t) % 256 = b by omega, show (b + 256 * vl t) / 256 = vl t by omega, hl, ← ih, s1]
    omega
theorem st2 : ∀ l : List Nat, (∀ b ∈ l, b < 256) → ((vl l / 4) &&& rp 51 l.length) + (vl l &&& rp 51 l.length) = vl (l.map s2)
  | [], _ => rfl
  | b :: t, h => by
    have hb := h b (List.mem_cons_self ..)
    have ih := st2 t (fun x hx => h x (List.mem_cons_of_mem _ hx))
    have hl := s2_low ⟨b, hb⟩ ⟨vl t % 4, by omega⟩
    simp only at hl
    rw [List.length_cons, List.map_cons, rp, vl, vl, and_byte _ _ _ (by decide), and_byte _ _ _ (by decide)]
    rw [show (b + 256 * vl t) / 4 % 256 = b / 4 + 64 * (vl t % 4) by omega, show (b + 256 * vl t) / 4 / 256 = vl t / 4 by omega, show (b + 256 * vl t) % 256 = b by omega, show (b + 256 * vl t) / 256 = vl t by omega, hl, ← ih, s2]
    omega
theorem st3 : ∀ l : List Nat, (∀ b ∈ l, b < 69 ∧ b % 16 < 5) → ((vl l / 16 + vl l) &&& rp 15 l.length) = vl (l.map s3)
  | [], _ => rfl
  | b :: t, h => by
    obtain ⟨hb, hb2⟩ := h b (List.mem_cons_self ..)
    have ih := st3 t (fun x hx => h x (List.mem_cons_of_mem _ hx))
    have ht : vl t % 16 < 5 := by
      cases t with
      | nil => decide
      | cons c u =>
        have := (h c (List.mem_cons_of_mem _ (List.mem_cons_self ..))).2
        rw [vl]; omega
    have hl := s3_low ⟨b, hb⟩ ⟨vl t % 16, ht⟩
    simp only at hl
    rw [List.length_cons, List.map_cons, rp, vl, vl, and_byte _ _ _ (by decide)]
    rw [show ((b + 256 * vl t) / 16 + (b + 256 * vl t)) % 256 = b / 16 + 16 * (vl t % 16) + b by omega, show ((b + 256 * vl t) / 16 + (b + 256 * vl t)) / 256 = vl t / 16 + vl t by omega, hl, ih]

theorem popN_byte (b y n : Nat) (hb : b < 256) : popN (b + 256 * y) (8 + n) = popN b 8 + popN y n := by
  unfold popN
  rw [List.range_add, List.countP_append, List.countP_map]
  congr 1
  · apply List.countP_congr
    intro i hi
    have hi := List.mem_range.1 hi
    have e : b + 256 * y = 2 ^ 8 * y + b := by omega
    rw [e, Nat.testBit_two_pow_mul_add y hb, if_pos hi]
  · apply List.countP_congr
    intro i hi
    have e : b + 256 * y = 2 ^ 8 * y + b := by omega
    simp only [Function.comp_apply]
    rw [e, Nat.testBit_two_pow_mul_add y hb, if_neg (by omega), show 8 + i - 8 = i by omega]
theorem bytes8 (x : Nat) (hx : x < 2 ^ 64) : ∃ a b c d e f g h : Nat, x = vl [a, b, c, d, e, f, g, h] ∧ (∀ z ∈ [a, b, c, d, e, f, g, h], z < 256) := by
  refine ⟨x % 256, x / 256 % 256, x / 65536 % 256, x / 16777216 % 256, x / 4294967296 % 256, x / 1099511627776 % 256, x / 281474976710656 % 256, x / 72057594037927936, ?_, ?_⟩
  · simp only [vl]; omega
  · simp only [List.mem_cons, List.not_mem_nil, or_false]
    rintro z (rfl | rfl | rfl | rfl | rfl | rfl | rfl | rfl) <;> omega
def a1 (x : Nat) : Nat := ((x / 2) &&& 6148914691236517205) + (x &&& 6148914691236517205)
def a2 (x : Nat) : Nat := ((x / 4) &&& 3689348814741910323) + (x &&& 3689348814741910323)
def a3 (x : Nat) : Nat := (x / 16 + x) &&& 1085102592571150095
set_option maxHeartbeats 1000000 in
theorem ones_sum (x : Nat) (hx : x < 2 ^ 64) : ∃ p0 p1 p2 p3 p4 p5 p6 p7 : Nat, a3 (a2 (a1 x)) = vl [p0, p1, p2, p3, p4, p5, p6, p7] ∧ popN x 64 = p0 + p1 + p2 + p3 + p4 + p5 + p6 + p7 ∧ (p0 ≤ 8 ∧ p1 ≤ 8 ∧ p2 ≤ 8 ∧ p3 ≤ 8) ∧ p4 ≤ 8 ∧ p5 ≤ 8 ∧ p6 ≤ 8 ∧ p7 ≤ 8 ∧ a1 x < 2 ^ 64 ∧ a2 (a1 x) / 16 + a2 (a1 x) < 2 ^ 64 ∧ a2 (a1 x) < 2 ^ 64 := by
  obtain ⟨a, b, c, d, e, f, g, h, rfl, hz⟩ := bytes8 x hx
  have ha := hz a (by simp)
  have hb := hz b (by simp)
  have hc := hz c (by simp)
  have hd := hz d (by simp)
  have he := hz e (by simp)
  have hf := hz f (by simp)
  have hg := hz g (by simp)
  have hh := hz h (by simp)
  have E1 : a1 (vl [a, b, c, d, e, f, g, h]) = vl ([a, b, c, d, e, f, g, h].map s1) := st1 _ hz
  have E2 : a2 (vl ([a, b, c, d, e, f, g, h].map s1)) = vl (([a, b, c, d, e, f, g, h].map s1).map s2) := st2 _ (by
    intro z hz'
    obtain ⟨u, hu, rfl⟩ := List.mem_map.1 hz'
    exact (s12_bd ⟨u, hz u hu⟩).1)
  have E3 : a3 (vl (([a, b, c, d, e, f, g, h].map s1).map s2)) = vl ((([a, b, c, d, e, f, g, h].map s1).map s2).map s3) := st3 _ (by
    intro z hz'
    obtain ⟨v, hv, rfl⟩ := List.mem_map.1 hz'
    obtain ⟨u, hu, rfl⟩ := List.mem_map.1 hv
    have := s12_bd ⟨u, hz u hu⟩
    exact ⟨this.2.1, this.2.2.1⟩)
  rw [E1, E2, E3]
  obtain ⟨ka1, ka2, -, ka3, ka4⟩ := s12_bd ⟨a, ha⟩
  obtain ⟨kb1, kb2, -, kb3, kb4⟩ := s12_bd ⟨b, hb⟩
  obtain ⟨kc1, kc2, -, kc3, kc4⟩ := s12_bd ⟨c, hc⟩
  obtain ⟨kd1, kd2, -, kd3, kd4⟩ := s12_bd ⟨d, hd⟩
  obtain ⟨ke1, ke2, -, ke3, ke4⟩ := s12_bd ⟨e, he⟩
  obtain ⟨kf1, kf2, -, kf3, kf4⟩ := s12_bd ⟨f, hf⟩
  obtain ⟨kg1, kg2, -, kg3, kg4⟩ := s12_bd ⟨g, hg⟩
  obtain ⟨kh1, kh2, -, kh3, kh4⟩ := s12_bd ⟨h, hh⟩
  simp only at ka1 ka2 ka3 ka4 kb1 kb2 kb3 kb4 kc1 kc2 kc3 kc4 kd1 kd2 kd3 kd4 ke1 ke2 ke3 ke4 kf1 kf2 kf3 kf4 kg1 kg2 kg3 kg4 kh1 kh2 kh3 kh4
  refine ⟨popN a 8, popN b 8, popN c 8, popN d 8, popN e 8, popN f 8, popN g 8, popN h 8, ?_, ?_, ?_⟩
  · simp only [List.map_cons, List.map_nil, ka3, kb3, kc3, kd3, ke3, kf3, kg3, kh3]
  · simp only [vl]
    rw [popN_byte a _ 56 ha, popN_byte b _ 48 hb, popN_byte c _ 40 hc, popN_byte d _ 32 hd, popN_byte e _ 24 he, popN_byte f _ 16 hf, popN_byte g _ 8 hg, popN_byte h _ 0 hh]
    have : popN 0 0 = 0 := rfl
    omega
  · have b1 := vl_bd 255 ([a, b, c, d, e, f, g, h].map s1) (by
      intro z hz'
      obtain ⟨u, hu, rfl⟩ := List.mem_map.1 hz'
      have := (s12_bd ⟨u, hz u hu⟩).1
      simp only at this
      omega)
    have b2 := vl_bd 68 (([a, b, c, d, e, f, g, h].map s1).map s2) (by
      intro z hz'
      obtain ⟨v, hv, rfl⟩ := List.mem_map.1 hz'
      obtain ⟨u, hu, rfl⟩ := List.mem_map.1 hv
      have := (s12_bd ⟨u, hz u hu⟩).2.1
      simp only at this
      omega)
    rw [List.length_map] at b1
    rw [List.length_map, List.length_map] at b2
    simp only [List.length_cons, List.length_nil] at b1 b2
    generalize vl (([a, b, c, d, e, f, g, h].map s1).map s2) = Y at *
    generalize vl ([a, b, c, d, e, f, g, h].map s1) = X at *
    clear E1 E2 E3 hz hx ha hb hc hd he hf hg hh ka1 ka2 ka3 kb1 kb2 kb3 kc1 kc2 kc3 kd1 kd2 kd3 ke1 ke2 ke3 kf1 kf2 kf3 kg1 kg2 kg3 kh1 kh2 kh3
    refine ⟨⟨ka4, kb4, kc4, kd4⟩, ke4, kf4, kg4, kh4, ?_, ?_, ?_⟩ <;> omega
theorem vl_lt8 {a b c d e f g h : Nat} (ha : a ≤ 255) (hb : b ≤ 255) (hc : c ≤ 255) (hd : d ≤ 255) (he : e ≤ 255) (hf : f ≤ 255) (hg : g ≤ 255) (hh : h ≤ 255) : vl [a, b, c, d, e, f, g, h] < 18446744073709551616 := by
  have := vl_bd 255 [a, b, c, d, e, f, g, h] (by simp only [List.mem_cons, List.not_mem_nil, or_false]; rintro b (rfl | rfl | rfl | rfl | rfl | rfl | rfl | rfl) <;> assumption)
  simp only [List.length_cons, List.length_nil] at this
  omega
set_option maxHeartbeats 1000000 in
theorem ones_low {p0 p1 p2 p3 p4 p5 p6 p7 x : Nat} (hx : x = vl [p0, p1, p2, p3, p4, p5, p6, p7]) (h0 : p0 ≤ 8 ∧ p1 ≤ 8 ∧ p2 ≤ 8 ∧ p3 ≤ 8) (h4 : p4 ≤ 8) (h5 : p5 ≤ 8) (h6 : p6 ≤ 8) (h7 : p7 ≤ 8) :
    x < 18446744073709551616 ∧ x + x / 256 < 18446744073709551616 ∧ x + x / 256 + (x + x / 256) / 65536 < 18446744073709551616 ∧ x + x / 256 + (x + x / 256) / 65536 + (x + x / 256 + (x + x / 256) / 65536) / 4294967296 < 18446744073709551616 ∧
      (x + x / 256 + (x + x / 256) / 65536 + (x + x / 256 + (x + x / 256) / 65536) / 4294967296) % 128 = p0 + p1 + p2 + p3 + p4 + p5 + p6 + p7 := by
  obtain ⟨h0, h1, h2, h3⟩ := h0
  have k0 : x < 18446744073709551616 := by
    rw [hx]; apply vl_lt8 <;> omega
  have s1 : x + x / 256 = vl [p0 + p1, p1 + p2, p2 + p3, p3 + p4, p4 + p5, p5 + p6, p6 + p7, p7 + 0] := by
    rw [hx, vl_div _ _ (by omega), show vl [p1, p2, p3, p4, p5, p6, p7] = vl [p1, p2, p3, p4, p5, p6, p7, 0] from rfl]
    exact (vl_add [p0, p1, p2, p3, p4, p5, p6, p7] [p1, p2, p3, p4, p5, p6, p7, 0] rfl).symm
  have k1 : x + x / 256 < 18446744073709551616 := by
    rw [s1]; apply vl_lt8 <;> omega
  generalize x + x / 256 = y at *
  have s2 : y + y / 65536 = vl [p0 + p1 + (p2 + p3), p1 + p2 + (p3 + p4), p2 + p3 + (p4 + p5), p3 + p4 + (p5 + p6), p4 + p5 + (p6 + p7), p5 + p6 + (p7 + 0), p6 + p7 + 0, p7 + 0 + 0] := by
    rw [show y / 65536 = y / 256 / 256 by omega, s1, vl_div _ _ (by omega), vl_div _ _ (by omega), show vl [p2 + p3, p3 + p4, p4 + p5, p5 + p6, p6 + p7, p7 + 0] = vl [p2 + p3, p3 + p4, p4 + p5, p5 + p6, p6 + p7, p7 + 0, 0, 0] from rfl]
    exact (vl_add [p0 + p1, p1 + p2, p2 + p3, p3 + p4, p4 + p5, p5 + p6, p6 + p7, p7 + 0] [p2 + p3, p3 + p4, p4 + p5, p5 + p6, p6 + p7, p7 + 0, 0, 0] rfl).symm
  have k2 : y + y / 65536 < 18446744073709551616 := by
    rw [s2]; apply vl_lt8 <;> omega
  generalize y + y / 65536 = z at *
  have s3 : z + z / 4294967296 = vl [p0 + p1 + (p2 + p3) + (p4 + p5 + (p6 + p7)), p1 + p2 + (p3 + p4) + (p5 + p6 + (p7 + 0)), p2 + p3 + (p4 + p5) + (p6 + p7 + 0), p3 + p4 + (p5 + p6) + (p7 + 0 + 0), p4 + p5 + (p6 + p7) + 0, p5 + p6 + (p7 + 0) + 0, p6 + p7 + 0 + 0, p7 + 0 + 0 + 0] := by
    rw [show z / 4294967296 = z / 256 / 256 / 256 / 256 by omega, s2, vl_div _ _ (by omega), vl_div _ _ (by omega), vl_div _ _ (by omega), vl_div _ _ (by omega), show vl [p4 + p5 + (p6 + p7), p5 + p6 + (p7 + 0), p6 + p7 + 0, p7 + 0 + 0] = vl [p4 + p5 + (p6 + p7), p5 + p6 + (p7 + 0), p6 + p7 + 0, p7 + 0 + 0, 0, 0, 0, 0] from rfl]
    exact (vl_add [p0 + p1 + (p2 + p3), p1 + p2 + (p3 + p4), p2 + p3 + (p4 + p5), p3 + p4 + (p5 + p6), p4 + p5 + (p6 + p7), p5 + p6 + (p7 + 0), p6 + p7 + 0, p7 + 0 + 0] [p4 + p5 + (p6 + p7), p5 + p6 + (p7 + 0), p6 + p7 + 0, p7 + 0 + 0, 0, 0, 0, 0] rfl).symm
  have k3 : z + z / 4294967296 < 18446744073709551616 := by
    rw [s3]; apply vl_lt8 <;> omega
  refine ⟨k0, k1, k2, k3, ?_⟩
  rw [s3, vl]
  clear k0 k1 k2 k3 s1 s2 s3 hx
  generalize vl _ = T
  omega
end Go.Proofs.YtooiegejchcbhaaDoor
