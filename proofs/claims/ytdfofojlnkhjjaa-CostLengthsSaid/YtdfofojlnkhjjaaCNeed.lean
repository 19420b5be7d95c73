/- Layer 28, the reference: Layout, Need. -/
import Derived.Test.YtdfofojlnkhjjaaMem
import Derived.Test.YtdfofojlnkhjjaaCKept
import Derived.Deep.RegionHeld3
import Derived.OwnWalk
import Derived.Deep.AppendLies
namespace Go.Proofs.Ytdfofojlnkhjjaa
open Go.RowKit

/-- the sizes of the regions -/
def szL (b k s r : Int) : List Int := [256 * s, s, r * s, s, s, r, 3 * (k + b * r), k + b * r, 4]
def szAt (b k s r : Int) (i : Nat) : Int := (szL b k s r).getD i 0
def sumTo (f : Nat → Int) : Nat → Int
  | 0 => 0
  | i + 1 => sumTo f i + f i
theorem infoReg : (Try.prog.info? 75).map (fun i => (i.zero, i.size, i.bytes)) = some (some (.agg #[.string .empty, .int .i64 0, .int .i64 0]), 3, 32) := by kernel_rfl

theorem cellAt {V : World} {B : Nat} {c : Array Value} {t : TypeId} {fr : Nat × Nat} (h : V.heap[B]? = some (.cells c t fr)) (k : Nat) : V.cell? ⟨B, k, none⟩ = c[k]? := by simp [World.cell?, h]

abbrev nmA : Array Value := #[.string ⟨#[116, 97, 98, 108, 101]⟩, .string ⟨#[115, 116, 97, 114, 116, 115]⟩, .string ⟨#[102, 105, 110, 97, 108, 115]⟩, .string ⟨#[115, 116, 97, 116, 101]⟩, .string ⟨#[110, 101, 120, 116]⟩, .string ⟨#[104, 105, 116, 115]⟩, .string ⟨#[115, 108, 111, 116, 115]⟩, .string ⟨#[114, 97, 110, 107, 115]⟩, .string ⟨#[102, 108, 97, 103, 115]⟩]

set_option maxRecDepth 100000 in
set_option maxHeartbeats 4000000 in
theorem layout_r (b k l s r : Int) (hz : slotOk b k l s r = true) (w : World) :
    Calls Try.prog 46 #[cfgV b k l, shpV s r] w fun e w' => ∃ v, e = .returned (.tuple #[v, .int .i64 0]) ∧ (∃ xs, w'.ownsRow w.heap.size 75 3 v 9 xs ∧ ∀ i, i < 9 → xs[i * 3 + 2]? = some (.int .i64 (szAt b k s r i)) ∧ xs[i * 3 + 1]? = some (.int .i64 (sumTo (szAt b k s r) i))) ∧ Below w.heap.size w w' := by
  have C1 := Lib.hid (fun w => slots_r b k l s r w)
  have HP := Lib.hid (Plain.start w b k l s r)
  obtain ⟨b1, b2, bb, k1, k2, l1, l2, s1, s2, r1, r2, m1, m2⟩ := fine hz
  rw [show slotE b k l s r = 0 by unfold slotE; rw [if_pos hz], show slotV b k l s r = k + b * r by unfold slotV; rw [if_pos hz]] at C1
  have h1 : 0 ≤ r * s := Int.mul_nonneg (by omega) (by omega)
  have h2 : r * s ≤ 16 * 4 := Int.mul_le_mul r2 s2 (by omega) (by omega)
  have hsz : ∀ i, i < 9 → 0 ≤ szAt b k s r i ∧ szAt b k s r i ≤ 3000 := by
    intro i hi
    rcases (show i = 0 ∨ i = 1 ∨ i = 2 ∨ i = 3 ∨ i = 4 ∨ i = 5 ∨ i = 6 ∨ i = 7 ∨ i = 8 by omega) with rfl | rfl | rfl | rfl | rfl | rfl | rfl | rfl | rfl <;> simp [szAt, szL] <;> omega
  obtain ⟨i0, hi, hz0, hz1, hz2⟩ := info_parts infoReg
  have HZ := Lib.hid hsz
  have w1 : IntKind.i64.wrap (r * s) = r * s := IntWalk.i64_in _ (by omega)
  obtain ⟨f, hf⟩ : ∃ f : Nat → Int, f = szAt b k s r := ⟨_, rfl⟩
  have hfa : ∀ i, i < 9 → (#[.int .i64 (256 * s), .int .i64 s, .int .i64 (r * s), .int .i64 s, .int .i64 s, .int .i64 r, .int .i64 (3 * (k + b * r)), .int .i64 (k + b * r), .int .i64 4] : Array Value)[i]? = some (.int .i64 (f i)) := by
    intro i hi
    rw [hf]
    rcases (show i = 0 ∨ i = 1 ∨ i = 2 ∨ i = 3 ∨ i = 4 ∨ i = 5 ∨ i = 6 ∨ i = 7 ∨ i = 8 by omega) with rfl | rfl | rfl | rfl | rfl | rfl | rfl | rfl | rfl <;> rfl
  have hna : ∀ i, i < 9 → ∃ n, nmA[i]? = some (.string n) := by
    intro i hi
    rcases (show i = 0 ∨ i = 1 ∨ i = 2 ∨ i = 3 ∨ i = 4 ∨ i = 5 ∨ i = 6 ∨ i = 7 ∨ i = 8 by omega) with rfl | rfl | rfl | rfl | rfl | rfl | rfl | rfl | rfl <;> exact ⟨_, rfl⟩
  rw [← hf] at HZ ⊢
  have HFA := Lib.hid hfa
  have HNA := Lib.hid hna
  have qa : 2 ≤ k + b * r := by omega
  have qb : k + b * r ≤ 288 := by omega
  generalize hq : k + b * r = q at *
  clear hq hf hfa hna hsz hz bb
  obtain ⟨⟨d0, d1, d2⟩, ⟨d3, d4⟩, _⟩ := HP.out.cells
  unfold cfgV shpV at *
  go_enter Try.func46, Try.ntmps46
  go_wp2_with fail
  refine (C1.out _).mono ?_
  rintro e v1 ⟨rfl, hb⟩
  have P1 := Lib.hid (HP.out.keep hb rfl)
  clear d0 d1 d2 d3 d4 hb
  obtain ⟨⟨d0, d1, d2⟩, ⟨d3, d4⟩, _⟩ := P1.out.cells
  have n0 := (Array.getElem?_eq_some_iff.1 P1.out.cfg).1
  have n1 := (Array.getElem?_eq_some_iff.1 P1.out.shp).1
  go_wp2_with fail
  have hB1 := P1.out.bel.size
  have HN := Lib.hid (show ((v1.alloc (.cells nmA 94)).alloc (.cells #[.int .i64 (256 * s), .int .i64 s, .int .i64 (r * s), .int .i64 s, .int .i64 s, .int .i64 r, .int .i64 (3 * q), .int .i64 q, .int .i64 4] 95)).heap[v1.heap.size]? = some (.cells nmA 94 (0, 0)) from (Below.heap_alloc _ _ _ (by simp)).trans (heap_alloc_new _ _))
  have HZ2 := Lib.hid (show ((v1.alloc (.cells nmA 94)).alloc (.cells #[.int .i64 (256 * s), .int .i64 s, .int .i64 (r * s), .int .i64 s, .int .i64 s, .int .i64 r, .int .i64 (3 * q), .int .i64 q, .int .i64 4] 95)).heap[v1.heap.size + 1]? = some (.cells #[.int .i64 (256 * s), .int .i64 s, .int .i64 (r * s), .int .i64 s, .int .i64 s, .int .i64 r, .int .i64 (3 * q), .int .i64 q, .int .i64 4] 95 (0, 0)) from by
    have := heap_alloc_new (v1.alloc (.cells nmA 94)) (.cells #[.int .i64 (256 * s), .int .i64 s, .int .i64 (r * s), .int .i64 s, .int .i64 s, .int .i64 r, .int .i64 (3 * q), .int .i64 q, .int .i64 4] 95)
    rwa [World.size_alloc] at this)
  have HB2 := Lib.hid ((P1.out.bel.alloc (by omega) (.cells nmA 94)).alloc (by simp; omega) (.cells #[.int .i64 (256 * s), .int .i64 s, .int .i64 (r * s), .int .i64 s, .int .i64 s, .int .i64 r, .int .i64 (3 * q), .int .i64 q, .int .i64 4] 95))
  clear d0 d1 d2 d3 d4 w1
  go_loopw [10, 11, 12] (fun ov bv iv wr => ∃ (i : Nat) (xs : List Value) (base : Int) (o : Value), o = ov ∧ i ≤ 9 ∧ iv = .int .i64 (i : Nat) ∧ bv = .int .i64 base ∧ 0 ≤ base ∧ base ≤ (i : Nat) * 3000 ∧ wr.ownsRow (v1.heap.size + 2) 75 3 ov i xs ∧ (∀ j, j < i → xs[j * 3 + 2]? = some (.int .i64 (f j)) ∧ xs[j * 3 + 1]? = some (.int .i64 (sumTo f j))) ∧ base = sumTo f i ∧
      wr.heap[v1.heap.size]? = some (.cells nmA 94 (0, 0)) ∧ wr.heap[v1.heap.size + 1]? = some (.cells #[.int .i64 (256 * s), .int .i64 s, .int .i64 (r * s), .int .i64 s, .int .i64 s, .int .i64 r, .int .i64 (3 * q), .int .i64 q, .int .i64 4] 95 (0, 0)) ∧ v1.heap.size + 2 ≤ wr.heap.size ∧ Below w.heap.size w wr) (fun _ _ iv _ => 9 - (intOf iv).toNat)
  case atStart => exact ⟨0, [], 0, _, rfl, by omega, rfl, rfl, by omega, by omega, World.ownsRow_nil _ _ _ _, fun j hj => absurd hj (Nat.not_lt_zero j), rfl, HN.out, HZ2.out, by simp, HB2.out⟩
  case round =>
    obtain ⟨i, xs, base, ov, rfl, hi9, rfl, rfl, hb0, hb1, hown, hxs, hbs, hnm, hsz, hgr, hBel⟩ := hrel
    have HBS := Lib.hid hbs
    clear hbs
    have HOWN := Lib.hid hown
    have HXS := Lib.hid hxs
    have HNM := Lib.hid hnm
    have HSZ := Lib.hid hsz
    have HBE := Lib.hid hBel
    clear hown hxs hnm hsz hBel
    by_cases hlt : i < 9
    · obtain ⟨nm, hnm⟩ := HNA.out i hlt
      have c1 := (cellAt HNM.out i).trans hnm
      have c2' := (cellAt HSZ.out i).trans (HFA.out i hlt)
      obtain ⟨z1, z2⟩ := HZ.out i hlt
      obtain ⟨z, hz⟩ : ∃ z, z = f i := ⟨_, rfl⟩
      rw [← hz] at c2' z1 z2
      have i1 : (0 : Int) ≤ (i : Int) := by omega
      have i2 : (i : Int) < 9 := by omega
      have HZI := Lib.hid hz
      clear hnm hz
      go_wp2_with fail
      have HG := Lib.hid (⟨c1, c2'⟩ : wr.cell? ⟨v1.heap.size, i, none⟩ = some (.string nm) ∧ wr.cell? ⟨v1.heap.size + 1, i, none⟩ = some (.int .i64 z))
      have a1 : ov.ownBlock ≠ some v1.heap.size := fun h => by have := (HOWN.out.lt _ h).1; omega
      have a2 : ov.ownBlock ≠ some (v1.heap.size + 1) := fun h => by have := (HOWN.out.lt _ h).1; omega
      have l1 : v1.heap.size < wr.heap.size := by omega
      have l2 : v1.heap.size + 1 < wr.heap.size := by omega
      go_region_held3 (fun w' => w'.cell? ⟨v1.heap.size, i, none⟩ = some (.string nm) ∧ w'.cell? ⟨v1.heap.size + 1, i, none⟩ = some (.int .i64 z))
        (first
          | go_keep
          | (go_split_ands
             refine ⟨?_, ?_⟩
             · (rw [hgrow.cell_far _ (by simp; omega) (Ne.symm a1)]; assumption)
             · (rw [hgrow.cell_far _ (by simp; omega) (Ne.symm a2)]; assumption)))
        ((refine step_append_lies _ (by rfl) _ _ _ (by rfl) (v1.heap.size + 2) 75 i0 _ 3 32 Try.underlying71 hi hz0 hz1 hz2 rfl (by omega) ov i xs (by rfl) ((HOWN.out.alloc _).drew)
            ⟨wr.heap.size, 0, none⟩ 1 1 [.string nm, .int .i64 base, .int .i64 z] (by rfl) (by rfl) (World.news_of_block (cs := #[.string nm, .int .i64 base, .int .i64 z]) (t := 75) (fr := (0, 0)) (heap_alloc_new wr _)) (by simp [Value.oneCell'])
            (by omega) (by unfold maxLen; omega) (by omega) (by simp; omega) (wr.heap.size + 1) (by simp) ?_; intro gg cap w2 hown1 hgrow hat hlt2))
      have bg : Below (v1.heap.size + 2) wr w2 := (((Below.refl _ wr).alloc (by omega) _).drew).grown hgrow (by simp; omega) fun q e => (HOWN.out.lt q e).1
      have HN3 := Lib.hid ((bg.block v1.heap.size (by omega)).trans HNM.out)
      have HS3 := Lib.hid ((bg.block (v1.heap.size + 1) (by omega)).trans HSZ.out)
      have HB3 := Lib.hid (HBE.out.trans (bg.mono (by omega)))
      have c3' := (cellAt HS3.out i).trans (HFA.out i hlt)
      rw [← HZI.out] at c3'
      have HO3 := Lib.hid hown1
      have hgr3 : v1.heap.size + 2 ≤ w2.heap.size := Nat.le_trans hgr bg.size
      have HXL := Lib.hid HOWN.out.1
      clear hown1 hgrow hat bg a1 a2
      go_wp2_with fail
      exact ⟨⟨i + 1, xs ++ [.string nm, .int .i64 base, .int .i64 z], base + z, _, rfl, by omega, by go_num, rfl, by omega, by omega, HO3.out, fun j hj => by
        have hl := HXL.out
        by_cases e : j = i
        · subst e
          rw [List.getElem?_append_right (by omega), show j * 3 + 2 - xs.length = 2 by omega, List.getElem?_append_right (by omega), show j * 3 + 1 - xs.length = 1 by omega, ← HZI.out, ← HBS.out]
          exact ⟨rfl, rfl⟩
        · rw [List.getElem?_append_left (by omega), List.getElem?_append_left (by omega)]
          exact HXS.out j (by omega), by rw [HBS.out, HZI.out]; rfl, HN3.out, HS3.out, hgr3, HB3.out⟩, by simp [intOf]; omega⟩
    · obtain rfl : i = 9 := by omega
      go_wp2_with fail
      go_ret2
      refine ⟨_, rfl, ⟨xs, ownsRow_base HOWN.out (by omega), HXS.out⟩, HBE.out⟩

def needV (b k s r : Int) : Int := sumTo (szAt b k s r) 9
theorem need_bd {b k l s r : Int} (hz : slotOk b k l s r = true) : 0 ≤ needV b k s r ∧ needV b k s r ≤ 3000 := by
  obtain ⟨b1, b2, bb, k1, k2, l1, l2, s1, s2, r1, r2, m1, m2⟩ := fine hz
  have h1 : 0 ≤ r * s := Int.mul_nonneg (by omega) (by omega)
  have h2 : r * s ≤ 16 * 4 := Int.mul_le_mul r2 s2 (by omega) (by omega)
  simp only [needV, sumTo, szAt, szL, List.getD_cons_zero, List.getD_cons_succ]
  omega

set_option maxRecDepth 100000 in
set_option maxHeartbeats 2000000 in
theorem need_r (b k l s r : Int) (hz : slotOk b k l s r = true) (w : World) :
    Calls Try.prog 22 #[cfgV b k l, shpV s r] w fun e w' => e = .returned (.tuple #[.int .i64 (needV b k s r), .int .i64 0]) ∧ Below w.heap.size w w' := by
  have K1 := Lib.hid (fun w => layout_r b k l s r hz w)
  have HP := Lib.hid (Plain.start w b k l s r)
  have hsz : ∀ i, i < 9 → 0 ≤ szAt b k s r i ∧ szAt b k s r i ≤ 3000 := by
    obtain ⟨b1, b2, bb, k1, k2, l1, l2, s1, s2, r1, r2, m1, m2⟩ := fine hz
    have h1 : 0 ≤ r * s := Int.mul_nonneg (by omega) (by omega)
    have h2 : r * s ≤ 16 * 4 := Int.mul_le_mul r2 s2 (by omega) (by omega)
    intro i hi
    rcases (show i = 0 ∨ i = 1 ∨ i = 2 ∨ i = 3 ∨ i = 4 ∨ i = 5 ∨ i = 6 ∨ i = 7 ∨ i = 8 by omega) with rfl | rfl | rfl | rfl | rfl | rfl | rfl | rfl | rfl <;> simp [szAt, szL] <;> omega
  have HZ := Lib.hid hsz
  unfold needV
  generalize szAt b k s r = f at *
  generalize hN : sumTo f 9 = N
  have HN := Lib.hid hN
  clear hsz hz hN
  obtain ⟨⟨d0, d1, d2⟩, ⟨d3, d4⟩, _⟩ := HP.out.cells
  unfold cfgV shpV at *
  go_enter Try.func22, Try.ntmps22
  go_wp2_with fail
  refine (K1.out _).mono ?_
  rintro e w1 ⟨v, rfl, ⟨xs, hown, hxs⟩, hb⟩
  have P1 := Lib.hid (HP.out.keep hb rfl)
  obtain ⟨g, cap, rfl, _, hg⟩ := hown.form (by omega)
  have HC := Lib.hid (fun i (hi : i < 9) => (hown.cellAt (i * 3 + 2) (by omega)).trans (hxs i hi).1)
  clear d0 d1 d2 d3 d4 hb hown hxs
  go_wp2_with fail
  go_loop [8, 9] (fun sv iv => ∃ i : Nat, i ≤ 9 ∧ iv = .int .i64 (i : Nat) ∧ sv = .int .i64 (sumTo f i) ∧ 0 ≤ sumTo f i ∧ sumTo f i ≤ (i : Nat) * 3000) (fun _ iv => 9 - (intOf iv).toNat)
  case atStart => exact ⟨0, by omega, rfl, rfl, by simp [sumTo], by simp [sumTo]⟩
  case round =>
    obtain ⟨i, hi, rfl, rfl, s0, s1⟩ := hrel
    have i1 : (0 : Int) ≤ (i : Int) := by omega
    by_cases hlt : i < 9
    · have c := HC.out i hlt
      obtain ⟨z1, z2⟩ := HZ.out i hlt
      have HS := Lib.hid (show sumTo f (i + 1) = sumTo f i + f i from rfl)
      generalize f i = z at *
      generalize sumTo f i = S at *
      have i2 : (i : Int) < 9 := by omega
      go_wp2_with fail
      exact ⟨⟨i + 1, by omega, by go_num, by rw [HS.out], by rw [HS.out]; omega, by rw [HS.out]; omega⟩, by simp [intOf]; omega⟩
    · obtain rfl : i = 9 := by omega
      rw [HN.out]
      go_wp2_with fail
      go_ret2
      exact ⟨rfl, P1.out.bel⟩
end Go.Proofs.Ytdfofojlnkhjjaa
