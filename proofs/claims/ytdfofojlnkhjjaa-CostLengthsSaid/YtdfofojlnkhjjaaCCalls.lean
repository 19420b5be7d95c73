/- Layer 30, the reference: Calls: the lengths of the traces. UNDER WAY. -/
import Derived.Test.YtdfofojlnkhjjaaCLens
import Derived.Test.YtdfofojlnkhjjaaMem
namespace Go.Proofs.Ytdfofojlnkhjjaa
open Go.RowKit

theorem infoLk : (Try.prog.info? 52).map (fun i => (i.zero, i.size, i.bytes)) = some (some (.agg #[.int .i64 0, .slice none 0 0]), 2, 32) := by kernel_rfl

theorem Plain.keepB {w W W' : World} {B N : Nat} {b k l s r : Int} (h : Plain w B b k l s r W) (hb : Below N W W') (h1 : B + 1 < N) : Plain w B b k l s r W' :=
  ⟨(hb.block B (by omega)).trans h.cfg, (hb.block (B + 1) h1).trans h.shp, h.base, h.bel.trans (hb.mono (by have := h.base; omega))⟩
theorem rows_step {xs : List Value} {A : List Int} {i : Nat} {N : Int} (hl : xs.length = i * 2) (h : ∀ j, j < i → ∃ a c, xs[j * 2 + 1]? = some (.slice a (A.getD j 0).toNat c)) (e : A.getD i 0 = N) (x0 : Value) (a : Option Addr) (m c : Nat) (hm : m = N.toNat) :
    ∀ j, j < i + 1 → ∃ a' c', (xs ++ [x0, .slice a m c])[j * 2 + 1]? = some (.slice a' (A.getD j 0).toNat c') := by
  intro j hj
  by_cases e2 : j = i
  · subst e2
    refine ⟨a, c, ?_⟩
    rw [List.getElem?_append_right (by omega), show j * 2 + 1 - xs.length = 1 by omega, e, hm]
    rfl
  · obtain ⟨a', c', h'⟩ := h j (by omega)
    exact ⟨a', c', by rw [List.getElem?_append_left (by omega)]; exact h'⟩

theorem row_forms {w : World} {base size n : Nat} {e : TypeId} {v : Value} {xs : List Value} (h : w.ownsRow base e size v n xs) : (v = .slice none 0 0 ∧ n = 0) ∨ ∃ g cap, v = .slice (some ⟨g, 0, none⟩) n cap := by
  rcases h.2 with h0 | ⟨g, cap, _, hv, _⟩
  · exact .inl h0
  · exact .inr ⟨g, cap, hv⟩
theorem add_row (g i : Nat) : (⟨g, 0, none⟩ : Addr).add i = ⟨g, i, none⟩ := by unfold Addr.add; split <;> simp_all
def CallsPost (All : List Int) (n : Nat) (w : World) (e : Ending) (w' : World) : Prop :=
  (e = .returned (.tuple #[.slice none 0 0, .int .i64 3]) ∨ ∃ g cap, e = .returned (.tuple #[.slice g n cap, .int .i64 0]) ∧
    ∀ i, i < n → ∃ gg a c, g = some ⟨gg, 0, none⟩ ∧ gg < w'.heap.size ∧ w'.cell? ⟨gg, i * 2 + 1, none⟩ = some (.slice a (All.getD i 0).toNat c)) ∧ Below w.heap.size w w'
theorem few_ok {b k l s r : Int} (hz : slotOk b k l s r = true) {y : Int} (h0 : 0 ≤ y) (h1 : y ≤ 40) : lenE y b = 0 ∧ manyV y b ≤ 40 := by
  have hb : okB b = true := by rcases (fine hz).bb with rfl | rfl | rfl | rfl | rfl <;> rfl
  have e := lenE_ok hb h0 (show y ≤ 1000 by omega)
  refine ⟨e, ?_⟩
  unfold manyV
  rcases (fine hz).bb with rfl | rfl | rfl | rfl | rfl <;> first | (rw [if_pos e]; omega) | omega

set_option maxRecDepth 100000 in
set_option maxHeartbeats 4000000 in
theorem calls30_ok (b k l s r : Int) (v : Value) (L : List (Int × Int)) (w : World) (hv : Pairs w v L) (hz : slotOk b k l s r = true) (hL : shapesE L = 0) (hF : farS l L 0 0 ≤ 40) :
    Calls Try.prog 32 #[cfgV b k l, shpV s r, v] w (CallsPost (lens l s (fun n => fdV b k l s r n) L 0 false) L.length w) := by
  have K1 := Lib.hid (fun w => begun30 b k l s r hz w)
  have K2 := Lib.hid (fun w (h : Pairs w v L) => shapes30 v L w h)
  rw [hL] at K2
  have K3 := Lib.hid (fun (y : Int) (h1 : lenE y b = 0) (h2 : manyV y b ≤ 40) (w : World) => feed30 b k l s r y hz h1 h2 w)
  have K4 := Lib.hid (fun (w : World) => flush30 b k l s r hz w)
  have K5 := Lib.hid (fun (w : World) => reset30 b k l s r hz w)
  have KL := Lib.hid (fun (y : Int) (h0 : 0 ≤ y) (h1 : y ≤ 40) => few_ok hz h0 h1)
  have KB := Lib.hid (fun (y : Int) => fdV_bd b k l s r y)
  have hs1 : 1 ≤ s := (fine hz).s1
  have hs2 : s ≤ 4 := (fine hz).s2
  have HP := Lib.hid (Plain.start w b k l s r)
  have hl0 : 0 ≤ l := (fine hz).l1
  have hl1 : l ≤ 1000000 := (fine hz).l2
  have hsh : shE L = 0 ∧ L.length ≤ 200 := by
    unfold shapesE at hL
    split at hL
    · omega
    · exact ⟨hL, by omega⟩
  have HS := Lib.hid (fun (i : Nat) (h : i < L.length) => shE_ok hsh.1 h)
  have hlen := hsh.2
  obtain ⟨i1', hi', hz0, hz1, hz2⟩ := info_parts infoLk
  obtain ⟨fd, hfd⟩ : ∃ fd : Int → Int, fd = fun n => fdV b k l s r n := ⟨_, rfl⟩
  rw [← hfd]
  have KB2 := Lib.hid (fun (y : Int) => by rw [hfd]; exact KB.out y : ∀ y : Int, 0 ≤ fd y ∧ fd y ≤ 100001000)
  obtain ⟨All, hAll⟩ : ∃ All, All = lens l s fd L 0 false := ⟨_, rfl⟩
  rw [← hAll]
  have HALL := Lib.hid hAll
  have HFD := Lib.hid hfd
  clear hAll hfd
  obtain ⟨_, av, capv, rfl, _⟩ := id hv
  have HV := Lib.hid hv
  obtain ⟨⟨d0, d1, d2⟩, ⟨d3, d4⟩, _⟩ := HP.out.cells
  unfold cfgV shpV at *
  go_enter Try.func32, Try.ntmps32
  go_wp2_with fail
  refine (K1.out _).mono ?_
  rintro e w1 ⟨B, rfl, _, _, hb⟩
  have P1 := Lib.hid (HP.out.keep hb rfl)
  clear d0 d1 d2 d3 d4 hb
  go_wp2_with fail
  refine (K2.out _ (HV.out.below P1.out.bel)).mono ?_
  rintro e w2 ⟨rfl, hb⟩
  have P2 := Lib.hid (P1.out.keep hb rfl)
  clear hb
  go_wp2_with fail
  have hw2 : w.heap.size + 1 < w2.heap.size := (Array.getElem?_eq_some_iff.1 P2.out.shp).1
  go_loopw [10, 11, 12, 13, 14] (fun ov tv sv cv iv wr => ∃ (i : Nat) (o : Value) (xs : List Value) (at_ sum : Int) (cl : Bool), o = ov ∧ i ≤ L.length ∧ iv = .int .i64 (i : Nat) ∧ tv = .int .i64 at_ ∧ sv = .int .i64 sum ∧ cv = .bool cl ∧ 0 ≤ at_ ∧ at_ ≤ l ∧ sum = (All.take i).sum ∧ 0 ≤ sum ∧ sum ≤ 2097152 ∧
      lens l s fd (L.drop i) at_ cl = All.drop i ∧ (cl = false → Few l L i at_) ∧ wr.ownsRow w2.heap.size 52 2 o i xs ∧ (∀ j, j < i → ∃ a c, xs[j * 2 + 1]? = some (.slice a (All.getD j 0).toNat c)) ∧ Plain w w.heap.size b k l s r wr ∧ w2.heap.size ≤ wr.heap.size) (fun _ _ _ _ iv _ => L.length - (intOf iv).toNat)
  case atStart => exact ⟨0, _, [], 0, 0, false, rfl, by omega, rfl, rfl, rfl, rfl, by omega, hl0, rfl, by omega, by omega, by rw [List.drop_zero, List.drop_zero]; exact HALL.out.symm, fun _ => ⟨0, by omega, by rw [List.drop_zero]; exact hF⟩, World.ownsRow_nil _ _ _ _, fun j hj => absurd hj (Nat.not_lt_zero j), P2.out, Nat.le_refl _⟩
  case round =>
    obtain ⟨i, ov, xs, at_, sum, cl, rfl, hi, rfl, rfl, rfl, rfl, a0, a1, hsum, s0, s1', hlens, hfew, hown, hxs, hP, hgr⟩ := hrel
    have HO := Lib.hid hown
    have HXS := Lib.hid hxs
    have HPL := Lib.hid hP
    have HFEW := Lib.hid hfew
    have HSUM := Lib.hid hsum
    clear hown hxs hfew hsum
    have i0 : (0 : Int) ≤ (i : Int) := by omega
    by_cases hlt : i < L.length
    · obtain ⟨g, o, rfl, hg, q1, q2⟩ := HV.out.at hlt
      have v1 := (hP.bel.cell (p := ⟨g, o + i * 2, none⟩) hg).trans q1
      have v2 := (hP.bel.cell (p := ⟨g, o + i * 2 + 1, none⟩) hg).trans q2
      have hE := lens_at l s fd hlt at_ cl
      rw [hlens] at hE
      obtain ⟨x1, x2, x3, x4⟩ := HS.out i hlt
      obtain ⟨⟨d0, d1, d2⟩, ⟨d3, d4⟩, _⟩ := HPL.out.cells
      have n0 : w.heap.size < wr.heap.size := (Array.getElem?_eq_some_iff.1 HPL.out.cfg).1
      have n1 : w.heap.size + 1 < wr.heap.size := (Array.getElem?_eq_some_iff.1 HPL.out.shp).1
      clear q1 q2 hlens hP
      have i1 : (i : Int) < (L.length : Int) := by omega
      generalize hx : L[i].1 = x at *
      generalize hy : L[i].2 = y at *
      have HXX := Lib.hid hx
      have HYY := Lib.hid hy
      clear hx hy
      cases cl with
      | true =>
        rw [if_pos rfl] at hE
        by_cases hx1 : x = 1
        · subst hx1
          by_cases hk : 1000 < y
          · obtain ⟨e1, e2, e3⟩ := drop_step hE.symm
            have E1 := Lib.hid e1
            have E2 := Lib.hid e2
            have E3 := Lib.hid e3
            clear hE e1 e2 e3
            go_wp2_with (at_builtin
                         refine wpList_append_own _ rfl _ _ 48 rfl w2.heap.size 52 i1' _ 2 32 Try.underlying48 hi' hz0 hz1 hz2 rfl (by decide) _ _ _ rfl (((HO.out.alloc _).alloc _).alloc _) ⟨wr.heap.size + 1 + 1, 0, none⟩ 1 1 [.int .i64 9, .slice none 0 0] rfl rfl (by have := cells_new ((wr.alloc (.cells #[.int .i64 1, .int .i64 y] 58)).alloc (.cells #[.int .i64 9, .slice none 0 0] 52)) [.int .i64 9, .slice none 0 0] 52; simpa using this) (by simp [Value.oneCell']) (by unfold maxLen; omega) (by omega) (by simp; omega) ?_
                         intro v' w3 hown' hgrow _)
            have bg : Below w2.heap.size wr w3 := ((((Below.refl _ wr).alloc (by omega) _).alloc (by simp; omega) _).alloc (by simp; omega) _).grown hgrow (by simp; omega) fun qq e => (HO.out.lt qq e).1
            exact ⟨⟨i + 1, v', xs ++ [.int .i64 9, .slice none 0 0], at_, sum, true, rfl, by omega, by go_num, rfl, rfl, rfl, a0, a1, by rw [E3.out, ← HSUM.out, Int.add_zero], s0, s1', E2.out.symm, (fun h => by cases h), hown', rows_step HO.out.1 HXS.out E1.out _ none 0 0 rfl, HPL.out.keepB bg hw2, by have := bg.size; omega⟩, by simp [intOf]; omega⟩
          · by_cases hj : l < at_ + y
            · obtain ⟨e1, e2, e3⟩ := drop_step hE.symm
              have E1 := Lib.hid e1
              have E2 := Lib.hid e2
              have E3 := Lib.hid e3
              clear hE e1 e2 e3
              go_wp2_with (at_builtin
                           refine wpList_append_own _ rfl _ _ 48 rfl w2.heap.size 52 i1' _ 2 32 Try.underlying48 hi' hz0 hz1 hz2 rfl (by decide) _ _ _ rfl (((HO.out.alloc _).alloc _).alloc _) ⟨wr.heap.size + 1 + 1, 0, none⟩ 1 1 [.int .i64 9, .slice none 0 0] rfl rfl (by have := cells_new ((wr.alloc (.cells #[.int .i64 1, .int .i64 y] 58)).alloc (.cells #[.int .i64 9, .slice none 0 0] 52)) [.int .i64 9, .slice none 0 0] 52; simpa using this) (by simp [Value.oneCell']) (by unfold maxLen; omega) (by omega) (by simp; omega) ?_
                           intro v' w3 hown' hgrow _)
              have bg : Below w2.heap.size wr w3 := ((((Below.refl _ wr).alloc (by omega) _).alloc (by simp; omega) _).alloc (by simp; omega) _).grown hgrow (by simp; omega) fun qq e => (HO.out.lt qq e).1
              exact ⟨⟨i + 1, v', xs ++ [.int .i64 9, .slice none 0 0], at_, sum, true, rfl, by omega, by go_num, rfl, rfl, rfl, a0, a1, by rw [E3.out, ← HSUM.out, Int.add_zero], s0, s1', E2.out.symm, (fun h => by cases h), hown', rows_step HO.out.1 HXS.out E1.out _ none 0 0 rfl, HPL.out.keepB bg hw2, by have := bg.size; omega⟩, by simp [intOf]; omega⟩
            · obtain ⟨e1, e2, e3⟩ := drop_step hE.symm
              have E1 := Lib.hid e1
              have E2 := Lib.hid e2
              have E3 := Lib.hid e3
              clear hE e1 e2 e3
              go_wp2_with (at_builtin
                           refine wpList_append_own _ rfl _ _ 48 rfl w2.heap.size 52 i1' _ 2 32 Try.underlying48 hi' hz0 hz1 hz2 rfl (by decide) _ _ _ rfl (((HO.out.alloc _).alloc _).alloc _) ⟨wr.heap.size + 1 + 1, 0, none⟩ 1 1 [.int .i64 9, .slice none 0 0] rfl rfl (by have := cells_new ((wr.alloc (.cells #[.int .i64 1, .int .i64 y] 58)).alloc (.cells #[.int .i64 9, .slice none 0 0] 52)) [.int .i64 9, .slice none 0 0] 52; simpa using this) (by simp [Value.oneCell']) (by unfold maxLen; omega) (by omega) (by simp; omega) ?_
                           intro v' w3 hown' hgrow _)
              have bg : Below w2.heap.size wr w3 := ((((Below.refl _ wr).alloc (by omega) _).alloc (by simp; omega) _).alloc (by simp; omega) _).grown hgrow (by simp; omega) fun qq e => (HO.out.lt qq e).1
              exact ⟨⟨i + 1, v', xs ++ [.int .i64 9, .slice none 0 0], at_, sum, true, rfl, by omega, by go_num, rfl, rfl, rfl, a0, a1, by rw [E3.out, ← HSUM.out, Int.add_zero], s0, s1', E2.out.symm, (fun h => by cases h), hown', rows_step HO.out.1 HXS.out E1.out _ none 0 0 rfl, HPL.out.keepB bg hw2, by have := bg.size; omega⟩, by simp [intOf]; omega⟩
        · have hx1' : (x == 1) = false := by simpa using hx1
          obtain ⟨e1, e2, e3⟩ := drop_step hE.symm
          have E1 := Lib.hid e1
          have E2 := Lib.hid e2
          have E3 := Lib.hid e3
          clear hE e1 e2 e3
          go_wp2_with (at_builtin
                       refine wpList_append_own _ rfl _ _ 48 rfl w2.heap.size 52 i1' _ 2 32 Try.underlying48 hi' hz0 hz1 hz2 rfl (by decide) _ _ _ rfl (((HO.out.alloc _).alloc _).alloc _) ⟨wr.heap.size + 1 + 1, 0, none⟩ 1 1 [.int .i64 9, .slice none 0 0] rfl rfl (by have := cells_new ((wr.alloc (.cells #[.int .i64 x, .int .i64 y] 58)).alloc (.cells #[.int .i64 9, .slice none 0 0] 52)) [.int .i64 9, .slice none 0 0] 52; simpa using this) (by simp [Value.oneCell']) (by unfold maxLen; omega) (by omega) (by simp; omega) ?_
                       intro v' w3 hown' hgrow _)
          have bg : Below w2.heap.size wr w3 := ((((Below.refl _ wr).alloc (by omega) _).alloc (by simp; omega) _).alloc (by simp; omega) _).grown hgrow (by simp; omega) fun qq e => (HO.out.lt qq e).1
          exact ⟨⟨i + 1, v', xs ++ [.int .i64 9, .slice none 0 0], at_, sum, true, rfl, by omega, by go_num, rfl, rfl, rfl, a0, a1, by rw [E3.out, ← HSUM.out, Int.add_zero], s0, s1', E2.out.symm, (fun h => by cases h), hown', rows_step HO.out.1 HXS.out E1.out _ none 0 0 rfl, HPL.out.keepB bg hw2, by have := bg.size; omega⟩, by simp [intOf]; omega⟩
      | false =>
        rcases (show x = 1 ∨ x = 2 ∨ x = 3 ∨ x = 4 by omega) with rfl | rfl | rfl | rfl
        · by_cases hk : 1000 < y
          · rw [if_neg (show ¬ (false = true) by simp), if_pos ⟨rfl, .inl hk⟩] at hE
            obtain ⟨e1, e2, e3⟩ := drop_step hE.symm
            have E1 := Lib.hid e1
            have E2 := Lib.hid e2
            have E3 := Lib.hid e3
            clear hE e1 e2 e3
            go_wp2_with (at_builtin
                         refine wpList_append_own _ rfl _ _ 48 rfl w2.heap.size 52 i1' _ 2 32 Try.underlying48 hi' hz0 hz1 hz2 rfl (by decide) _ _ _ rfl (((HO.out.alloc _).alloc _).alloc _) ⟨wr.heap.size + 1 + 1, 0, none⟩ 1 1 [.int .i64 3, .slice none 0 0] rfl rfl (by have := cells_new ((wr.alloc (.cells #[.int .i64 1, .int .i64 y] 58)).alloc (.cells #[.int .i64 3, .slice none 0 0] 52)) [.int .i64 3, .slice none 0 0] 52; simpa using this) (by simp [Value.oneCell']) (by unfold maxLen; omega) (by omega) (by simp; omega) ?_
                         intro v' w3 hown' hgrow _)
            have bg : Below w2.heap.size wr w3 := ((((Below.refl _ wr).alloc (by omega) _).alloc (by simp; omega) _).alloc (by simp; omega) _).grown hgrow (by simp; omega) fun qq e => (HO.out.lt qq e).1
            exact ⟨⟨i + 1, v', xs ++ [.int .i64 3, .slice none 0 0], at_, sum, false, rfl, by omega, by go_num, rfl, rfl, rfl, a0, a1, by rw [E3.out, ← HSUM.out, Int.add_zero], s0, s1', E2.out.symm, (fun _ => (HFEW.out rfl).long hlt HXX.out (by rw [HYY.out]; exact .inl hk)), hown', rows_step HO.out.1 HXS.out E1.out _ none 0 0 rfl, HPL.out.keepB bg hw2, by have := bg.size; omega⟩, by simp [intOf]; omega⟩
          · by_cases hj : l < at_ + y
            · rw [if_neg (show ¬ (false = true) by simp), if_pos ⟨rfl, .inr hj⟩] at hE
              obtain ⟨e1, e2, e3⟩ := drop_step hE.symm
              have E1 := Lib.hid e1
              have E2 := Lib.hid e2
              have E3 := Lib.hid e3
              clear hE e1 e2 e3
              go_wp2_with (at_builtin
                           refine wpList_append_own _ rfl _ _ 48 rfl w2.heap.size 52 i1' _ 2 32 Try.underlying48 hi' hz0 hz1 hz2 rfl (by decide) _ _ _ rfl (((HO.out.alloc _).alloc _).alloc _) ⟨wr.heap.size + 1 + 1, 0, none⟩ 1 1 [.int .i64 3, .slice none 0 0] rfl rfl (by have := cells_new ((wr.alloc (.cells #[.int .i64 1, .int .i64 y] 58)).alloc (.cells #[.int .i64 3, .slice none 0 0] 52)) [.int .i64 3, .slice none 0 0] 52; simpa using this) (by simp [Value.oneCell']) (by unfold maxLen; omega) (by omega) (by simp; omega) ?_
                           intro v' w3 hown' hgrow _)
              have bg : Below w2.heap.size wr w3 := ((((Below.refl _ wr).alloc (by omega) _).alloc (by simp; omega) _).alloc (by simp; omega) _).grown hgrow (by simp; omega) fun qq e => (HO.out.lt qq e).1
              exact ⟨⟨i + 1, v', xs ++ [.int .i64 3, .slice none 0 0], at_, sum, false, rfl, by omega, by go_num, rfl, rfl, rfl, a0, a1, by rw [E3.out, ← HSUM.out, Int.add_zero], s0, s1', E2.out.symm, (fun _ => (HFEW.out rfl).long hlt HXX.out (by rw [HYY.out]; exact .inr hj)), hown', rows_step HO.out.1 HXS.out E1.out _ none 0 0 rfl, HPL.out.keepB bg hw2, by have := bg.size; omega⟩, by simp [intOf]; omega⟩
            · rw [if_neg (show ¬ (false = true) by simp), if_neg (by omega), if_pos rfl] at hE
              obtain ⟨e1, e2, e3⟩ := drop_step hE.symm
              have E1 := Lib.hid e1
              have E2 := Lib.hid e2
              have E3 := Lib.hid e3
              clear hE e1 e2 e3
              obtain ⟨y40, hF2⟩ := (HFEW.out rfl).feed hlt HXX.out (by rw [HYY.out]; omega) (by rw [HYY.out]; omega) (by rw [HYY.out]; omega)
              rw [HYY.out] at y40 hF2
              have HF2 := Lib.hid hF2
              obtain ⟨f1, f2⟩ := KL.out y (by omega) y40
              have K := Lib.hid (fun w => K3.out y f1 f2 w)
              obtain ⟨n0', n1'⟩ := KB2.out y
              have hfy : fdV b k l s r y = fd y := by rw [HFD.out]
              rw [hfy] at K
              have hNI : ((fd y).toNat : Int) = fd y := Int.toNat_of_nonneg n0'
              generalize hN : (fd y).toNat = N at *
              have HNI := Lib.hid hNI
              have hN1 : N ≤ 100001000 := by omega
              clear f1 f2 hfy hF2 hN hNI
              go_wp2_with fail
              refine (K.out _).mono ?_
              rintro e w3 ⟨ga, ca, rfl, hb⟩
              have HBB := Lib.hid hb
              have g1 := later' hb (heap_alloc_new (wr.alloc (.cells #[.int .i64 1, .int .i64 y] 58)) (.cells #[.int .i64 0, .slice none 0 0] 52)) rfl
              have g0 := later' hb (new2 wr (.cells #[.int .i64 1, .int .i64 y] 58) (.cells #[.int .i64 0, .slice none 0 0] 52)) (by simp)
              have hbs := hb.size
              simp only [World.size_alloc] at g1 hbs
              have hw3 : wr.heap.size + 1 < w3.heap.size := by omega
              obtain ⟨u0, u1⟩ := c2 g1
              obtain ⟨y0, y1⟩ := c2 g0
              have fu : w3.frozen? ⟨wr.heap.size + 1, 1, none⟩ = false := by simp [World.frozen?, g1]
              have G1 := Lib.hid g1
              clear hb g1 g0
              have hbel : Below wr.heap.size wr (w3.setCell ⟨wr.heap.size + 1, 1, none⟩ (.slice ga N ca)) := ((((Below.refl _ wr).alloc (Nat.le_refl _) _).alloc (by simp) _).trans (HBB.out.mono (by simp; omega))).setCell (by simp) _
              have HBL := Lib.hid hbel
              clear hbel
              by_cases hbig : 2097152 < sum + (N : Int)
              · go_wp2_with fail
                go_ret2
                exact show CallsPost _ _ _ _ _ from ⟨.inl rfl, HPL.out.bel.trans (HBL.out.mono (by omega))⟩
              · go_wp2_with (at_builtin
                             refine wpList_append_own _ rfl _ _ 48 rfl w2.heap.size 52 i1' _ 2 32 Try.underlying48 hi' hz0 hz1 hz2 rfl (by decide) _ _ _ rfl ((ownsRow_below HO.out HBL.out).alloc _) ⟨w3.heap.size, 0, none⟩ 1 1 [.int .i64 0, .slice ga N ca] rfl rfl (by have := cells_new (w3.setCell ⟨wr.heap.size + 1, 1, none⟩ (.slice ga N ca)) [.int .i64 0, .slice ga N ca] 52; simpa using this) (by simp [Value.oneCell']) (by unfold maxLen; omega) (by omega) (by simp; omega) ?_
                             intro v' w4 hown' hgrow _)
                have bg : Below w2.heap.size wr w4 := ((HBL.out.mono (by omega)).alloc (by simp; omega) _).grown hgrow (by simp; omega) fun qq e => (HO.out.lt qq e).1
                exact ⟨⟨i + 1, v', xs ++ [.int .i64 0, .slice ga N ca], at_ + y, sum + N, false, rfl, by omega, by go_num, rfl, rfl, rfl, by omega, by omega, by rw [E3.out, ← HSUM.out, HNI.out], by omega, by omega, E2.out.symm, (fun _ => HF2.out), hown', rows_step HO.out.1 HXS.out (E1.out.trans HNI.out.symm) _ ga N ca (by simp), HPL.out.keepB bg hw2, by have := bg.size; omega⟩, by simp [intOf]; omega⟩
        · rw [if_neg (show ¬ (false = true) by simp), if_neg (by omega), if_neg (by omega), if_pos rfl] at hE
          obtain ⟨e1, e2, e3⟩ := drop_step hE.symm
          have E1 := Lib.hid e1
          have E2 := Lib.hid e2
          have E3 := Lib.hid e3
          clear hE e1 e2 e3
          have HF2 := Lib.hid ((HFEW.out rfl).flush hlt HXX.out (by rw [HYY.out]; omega))
          have K := Lib.hid (fun w => K4.out w)
          go_wp2_with fail
          refine (K.out _).mono ?_
          rintro e w3 ⟨ga, ca, rfl, hb⟩
          have HBB := Lib.hid hb
          have g1 := later' hb (heap_alloc_new (wr.alloc (.cells #[.int .i64 2, .int .i64 y] 58)) (.cells #[.int .i64 0, .slice none 0 0] 52)) rfl
          have hbs := hb.size
          simp only [World.size_alloc] at g1 hbs
          have hw3 : wr.heap.size + 1 < w3.heap.size := by omega
          obtain ⟨u0, u1⟩ := c2 g1
          have fu : w3.frozen? ⟨wr.heap.size + 1, 1, none⟩ = false := by simp [World.frozen?, g1]
          clear hb g1
          have hbel : Below wr.heap.size wr (w3.setCell ⟨wr.heap.size + 1, 1, none⟩ (.slice ga 2 ca)) := ((((Below.refl _ wr).alloc (Nat.le_refl _) _).alloc (by simp) _).trans (HBB.out.mono (by simp; omega))).setCell (by simp) _
          have HBL := Lib.hid hbel
          clear hbel
          by_cases hbig : 2097152 < sum + 2
          · go_wp2_with fail
            go_ret2
            exact show CallsPost _ _ _ _ _ from ⟨.inl rfl, HPL.out.bel.trans (HBL.out.mono (by omega))⟩
          · go_wp2_with (at_builtin
                         refine wpList_append_own _ rfl _ _ 48 rfl w2.heap.size 52 i1' _ 2 32 Try.underlying48 hi' hz0 hz1 hz2 rfl (by decide) _ _ _ rfl ((ownsRow_below HO.out HBL.out).alloc _) ⟨w3.heap.size, 0, none⟩ 1 1 [.int .i64 0, .slice ga 2 ca] rfl rfl (by have := cells_new (w3.setCell ⟨wr.heap.size + 1, 1, none⟩ (.slice ga 2 ca)) [.int .i64 0, .slice ga 2 ca] 52; simpa using this) (by simp [Value.oneCell']) (by unfold maxLen; omega) (by omega) (by simp; omega) ?_
                         intro v' w4 hown' hgrow _)
            have bg : Below w2.heap.size wr w4 := ((HBL.out.mono (by omega)).alloc (by simp; omega) _).grown hgrow (by simp; omega) fun qq e => (HO.out.lt qq e).1
            exact ⟨⟨i + 1, v', xs ++ [.int .i64 0, .slice ga 2 ca], at_, sum + 2, false, rfl, by omega, by go_num, rfl, rfl, rfl, by omega, by omega, by rw [E3.out, ← HSUM.out], by omega, by omega, E2.out.symm, (fun _ => HF2.out), hown', rows_step HO.out.1 HXS.out E1.out _ ga 2 ca (by omega), HPL.out.keepB bg hw2, by have := bg.size; omega⟩, by simp [intOf]; omega⟩
        · rw [if_neg (show ¬ (false = true) by simp), if_neg (by omega), if_neg (by omega), if_neg (by omega), if_pos rfl] at hE
          obtain ⟨e1, e2, e3⟩ := drop_step hE.symm
          have E1 := Lib.hid e1
          have E2 := Lib.hid e2
          have E3 := Lib.hid e3
          clear hE e1 e2 e3
          have HF2 := Lib.hid ((HFEW.out rfl).reset hlt HXX.out (by rw [HYY.out]; omega))
          have K := Lib.hid (fun w => K5.out w)
          have hNI : ((s + 4).toNat : Int) = s + 4 := Int.toNat_of_nonneg (by omega)
          generalize hN : (s + 4).toNat = N at *
          have HN3 := Lib.hid hNI
          have hN8 : N ≤ 8 := by omega
          clear hN hNI
          go_wp2_with fail
          refine (K.out _).mono ?_
          rintro e w3 ⟨ga, ca, rfl, hb⟩
          have HBB := Lib.hid hb
          have g1 := later' hb (heap_alloc_new (wr.alloc (.cells #[.int .i64 3, .int .i64 y] 58)) (.cells #[.int .i64 0, .slice none 0 0] 52)) rfl
          have hbs := hb.size
          simp only [World.size_alloc] at g1 hbs
          have hw3 : wr.heap.size + 1 < w3.heap.size := by omega
          obtain ⟨u0, u1⟩ := c2 g1
          have fu : w3.frozen? ⟨wr.heap.size + 1, 1, none⟩ = false := by simp [World.frozen?, g1]
          clear hb g1
          have hbel : Below wr.heap.size wr (w3.setCell ⟨wr.heap.size + 1, 1, none⟩ (.slice ga N ca)) := ((((Below.refl _ wr).alloc (Nat.le_refl _) _).alloc (by simp) _).trans (HBB.out.mono (by simp; omega))).setCell (by simp) _
          have HBL := Lib.hid hbel
          clear hbel
          by_cases hbig : 2097152 < sum + (N : Nat)
          · go_wp2_with fail
            go_ret2
            exact show CallsPost _ _ _ _ _ from ⟨.inl rfl, HPL.out.bel.trans (HBL.out.mono (by omega))⟩
          · go_wp2_with (at_builtin
                         refine wpList_append_own _ rfl _ _ 48 rfl w2.heap.size 52 i1' _ 2 32 Try.underlying48 hi' hz0 hz1 hz2 rfl (by decide) _ _ _ rfl ((ownsRow_below HO.out HBL.out).alloc _) ⟨w3.heap.size, 0, none⟩ 1 1 [.int .i64 0, .slice ga N ca] rfl rfl (by have := cells_new (w3.setCell ⟨wr.heap.size + 1, 1, none⟩ (.slice ga N ca)) [.int .i64 0, .slice ga N ca] 52; simpa using this) (by simp [Value.oneCell']) (by unfold maxLen; omega) (by omega) (by simp; omega) ?_
                         intro v' w4 hown' hgrow _)
            have bg : Below w2.heap.size wr w4 := ((HBL.out.mono (by omega)).alloc (by simp; omega) _).grown hgrow (by simp; omega) fun qq e => (HO.out.lt qq e).1
            exact ⟨⟨i + 1, v', xs ++ [.int .i64 0, .slice ga N ca], 0, sum + (N : Nat), false, rfl, by omega, by go_num, rfl, rfl, rfl, by omega, by omega, by rw [E3.out, ← HSUM.out, HN3.out], by omega, by omega, E2.out.symm, (fun _ => HF2.out), hown', rows_step HO.out.1 HXS.out E1.out _ ga N ca (by have := HN3.out; omega), HPL.out.keepB bg hw2, by have := bg.size; omega⟩, by simp [intOf]; omega⟩
        · rw [if_neg (show ¬ (false = true) by simp), if_neg (by omega), if_neg (by omega), if_neg (by omega), if_neg (by omega)] at hE
          obtain ⟨e1, e2, e3⟩ := drop_step hE.symm
          have E1 := Lib.hid e1
          have E2 := Lib.hid e2
          have E3 := Lib.hid e3
          clear hE e1 e2 e3
          go_wp2_with (at_builtin
                       refine wpList_append_own _ rfl _ _ 48 rfl w2.heap.size 52 i1' _ 2 32 Try.underlying48 hi' hz0 hz1 hz2 rfl (by decide) _ _ _ rfl (((HO.out.alloc _).alloc _).alloc _) ⟨wr.heap.size + 1 + 1, 0, none⟩ 1 1 [.int .i64 0, .slice none 0 0] rfl rfl (by have := cells_new ((wr.alloc (.cells #[.int .i64 4, .int .i64 y] 58)).alloc (.cells #[.int .i64 0, .slice none 0 0] 52)) [.int .i64 0, .slice none 0 0] 52; simpa using this) (by simp [Value.oneCell']) (by unfold maxLen; omega) (by omega) (by simp; omega) ?_
                       intro v' w3 hown' hgrow _)
          have bg : Below w2.heap.size wr w3 := ((((Below.refl _ wr).alloc (by omega) _).alloc (by simp; omega) _).alloc (by simp; omega) _).grown hgrow (by simp; omega) fun qq e => (HO.out.lt qq e).1
          exact ⟨⟨i + 1, v', xs ++ [.int .i64 0, .slice none 0 0], at_, sum, true, rfl, by omega, by go_num, rfl, rfl, rfl, a0, a1, by rw [E3.out, ← HSUM.out, Int.add_zero], s0, s1', E2.out.symm, (fun h => by cases h), hown', rows_step HO.out.1 HXS.out E1.out _ none 0 0 rfl, HPL.out.keepB bg hw2, by have := bg.size; omega⟩, by simp [intOf]; omega⟩
    · obtain rfl : i = L.length := by omega
      have i1 : ¬ (L.length : Int) < (L.length : Int) := by omega
      have HF := Lib.hid (row_forms HO.out)
      clear hlt hlens hP
      rcases HF.out with ⟨rfl, h0⟩ | ⟨g, cap, rfl⟩
      · have H0 := Lib.hid h0
        clear h0
        go_wp2_with fail
        go_ret2
        exact show CallsPost _ _ _ _ _ from ⟨.inr ⟨none, 0, by rw [H0.out]; rfl, fun j hj => by have := H0.out; omega⟩, HPL.out.bel⟩
      · have HLT := Lib.hid ((HO.out.lt) g rfl).2
        have HCE := Lib.hid (HO.out.cells (g := g) rfl)
        go_wp2_with fail
        go_ret2
        refine show CallsPost _ _ _ _ _ from ⟨.inr ⟨some ⟨g, 0, none⟩, cap, rfl, fun j hj => ?_⟩, HPL.out.bel⟩
        obtain ⟨a, c, hc⟩ := HXS.out j hj
        have h2 := HCE.out _ _ hc
        rw [add_row] at h2
        exact ⟨g, a, c, rfl, HLT.out, h2⟩
end Go.Proofs.Ytdfofojlnkhjjaa
