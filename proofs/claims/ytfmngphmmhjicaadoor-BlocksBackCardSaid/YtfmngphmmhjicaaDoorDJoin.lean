/- blocks.Join. -/
import Derived.Test.YtfmngphmmhjicaaDoorDWrong
import Derived.Test.YtfmngphmmhjicaaDoorDBuild
namespace Go.Proofs.YtfmngphmmhjicaaDoor
open Go.RowKit

def catL (L : List Part) : List UInt8 := L.flatMap fun p => p.1.take p.2.1.toNat
theorem catL_take {L : List Part} {k : Nat} (h : k < L.length) : catL (L.take (k + 1)) = catL (L.take k) ++ L[k].1.take L[k].2.1.toNat := by
  simp only [catL, List.take_succ_eq_append_getElem h, List.flatMap_append, List.flatMap_cons, List.flatMap_nil, List.append_nil]
def badK (L : List Part) (b : Int) : Option Nat := (List.range L.length).find? fun k => wrongL L b k != 0
def joinV (L : List Part) (b : Int) : List UInt8 × Int × Int :=
  if okB b = true then (match badK L b with
    | some k => ([], (k : Int), wrongL L b k)
    | none => (catL L, 0, 0)) else ([], 0, 7)
theorem find_range {p : Nat → Bool} : ∀ (n k : Nat), k < n → (∀ j, j < k → p j = false) → p k = true → (List.range n).find? p = some k
  | 0, k, h, _, _ => by omega
  | n + 1, k, h, h1, h2 => by
    rw [List.range_succ, List.find?_append]
    by_cases hk : k < n
    · rw [find_range n k hk h1 h2]; rfl
    · obtain rfl : k = n := by omega
      have : (List.range k).find? p = none := by
        rw [List.find?_eq_none]; intro x hx; rw [h1 x (List.mem_range.1 hx)]; simp
      rw [this]; simp [h2]
theorem join_bad {L : List Part} {b : Int} {k : Nat} (hb : okB b = true) (hk : k < L.length) (h : ∀ j, j < k → wrongL L b j = 0) (h1 : wrongL L b k ≠ 0) : joinV L b = ([], (k : Int), wrongL L b k) := by
  have e : badK L b = some k := find_range _ _ hk (fun j hj => by rw [h j hj]; rfl) (bne_iff_ne.2 h1)
  unfold joinV
  rw [if_pos hb, e]
theorem join_ok {L : List Part} {b : Int} (hb : okB b = true) (h : ∀ j, j < L.length → wrongL L b j = 0) : joinV L b = (catL L, 0, 0) := by
  have e : badK L b = none := by
    unfold badK
    rw [List.find?_eq_none]; intro x hx; rw [h x (List.mem_range.1 hx)]; simp
  unfold joinV
  rw [if_pos hb, e]
theorem join_no {L : List Part} {b : Int} (hb : okB b = false) : joinV L b = ([], 0, 7) := by
  unfold joinV
  rw [if_neg (by rw [hb]; simp)]
theorem okB_range {b : Int} (h : okB b = true) : 1 ≤ b ∧ b ≤ 16 := by
  rcases okB_cases h with rfl | rfl | rfl | rfl | rfl <;> omega
theorem wrongL_at {L : List Part} {b : Int} {k : Nat} (hk : k < L.length) : wrongL L b k = wrongE L.length k b L[k] (L.getD (k - 1) noPart) := by
  unfold wrongL
  rw [List.getD_eq_getElem?_getD (i := k), List.getElem?_eq_getElem hk]; rfl
theorem wrong_ok {L : List Part} {b : Int} {k : Nat} (hk : k < L.length) (h : wrongL L b k = 0) :
    (L[k].1.length : Int) = b ∧ 1 ≤ L[k].2.1 ∧ L[k].2.1 ≤ b ∧ 0 ≤ L[k].2.2 ∧ (L[k].2.1 = b ∨ k + 1 = L.length) ∧ (L[k].1.drop L[k].2.1.toNat).all (· == 0) = true ∧ (k = 0 ∨ L[k].2.2 - b = (L.getD (k - 1) noPart).2.2) ∧ k * b + L[k].2.1 ≤ 1000 := by
  rw [wrongL_at hk] at h
  rcases wrong_cases L.length k b L[k] (L.getD (k - 1) noPart) with ⟨_, e⟩ | ⟨_, _, e⟩ | ⟨h1, h2, ⟨_, _, e⟩ | ⟨h3, ⟨_, e⟩ | ⟨h4, ⟨_, _, e⟩ | ⟨h5, ⟨_, e⟩ | ⟨h6, e⟩⟩⟩⟩⟩ <;> first | omega | skip
  exact ⟨h1, h2.1, h2.2.1, h2.2.2, by omega, h4, by omega, h6⟩
theorem Bld.below {b : Nat} {bs : List Value} {w w' : World} (h : Bld b bs w) (hb : Below w.heap.size w w') : Bld b bs w' := by
  have key : ∀ p, Lib.BuilderAtF 51 5 b b p bs w → Lib.BuilderAtF 51 5 b b p bs w' := by
    rintro p ⟨h1, v, h2, h3, h4⟩
    refine ⟨h1, v, (hb.block b (Array.getElem?_eq_some_iff.1 h2).1).trans h2, ⟨h3.1, ?_⟩, h4⟩
    rcases h3.2 with h0 | ⟨g, cap, cur, fz, e, hg, hh, r⟩
    · exact .inl h0
    · exact .inr ⟨g, cap, cur, fz, e, hg, (hb.block g (Array.getElem?_eq_some_iff.1 hh).1).trans hh, r⟩
  rcases h with h | h
  · exact .inl (key _ h)
  · exact .inr (key _ h)
theorem bcs_append (a b : List UInt8) : Lib.byteCells (a ++ b) = Lib.byteCells a ++ Lib.byteCells b := by simp [Lib.byteCells]

set_option maxHeartbeats 1000000 in
set_option maxRecDepth 100000 in
theorem string0_p (b : Nat) (w : World) (h : w.heap[b]? = some (.cells #[.pointer none, .slice none 0 0] 51)) :
    Calls Tryd.prog 20 #[.pointer (some ⟨b, 0, none⟩)] w fun e w' => e = .returned (.string .empty) ∧ Below b w w' := by
  have c1 : w.drew.cell? ⟨b, 1, none⟩ = some (.slice none 0 0) := by
    have : w.drew.heap[b]? = some (.cells #[.pointer none, .slice none 0 0] 51 (0, 0)) := h
    unfold World.cell?; rw [this]; rfl
  clear h
  have hSD := Lib.run_unsafeSliceData_nil (P := Tryd.prog) w.drew #[49] 61 0 0
  have hUS := Lib.run_unsafeString_none (P := Tryd.prog) w.drew 61 3 9 none
  go_enter Tryd.func20, Tryd.ntmps20
  go_wp2
  go_region
  all_goals (go_wp2; go_ret; exact ⟨rfl, Below.drew (Below.refl b w)⟩)

def JoinP (r : List UInt8 × Int × Int) (w : World) (e : Ending) (w' : World) : Prop := e = .returned (.tuple #[.string (str r.1), .int .i64 r.2.1, .int .i64 r.2.2]) ∧ Below w.heap.size w w'

set_option maxRecDepth 100000 in
set_option maxHeartbeats 4000000 in
theorem join_p (v : Value) (L : List Part) (b : Int) (w : World) (hv : Parts w v L) (hn : L.length ≤ 1000) (hl : ∀ p ∈ L, okPart p) :
    Calls Tryd.prog 8 #[v, .int .i64 b] w (JoinP (joinV L b) w) := by
  obtain ⟨a, cap, rfl⟩ := Row.form2 hv
  have KC := Lib.hid (fun w => check_p b w)
  by_cases hb : okB b = true
  case neg =>
    have hb' : okB b = false := by simpa using hb
    rw [join_no hb']
    have e7 : chk b = 7 := by unfold chk; rw [hb']; rfl
    rw [e7] at KC
    clear e7 hb hb'
    go_enter Tryd.func8, Tryd.ntmps8
    go_wp2_with fail
    refine (KC.out _).mono ?_
    rintro e w1 ⟨rfl, rfl⟩
    go_wp2_with fail
    go_ret3
    exact show JoinP _ _ _ _ from ⟨rfl, Below.refl _ _⟩
  case pos =>
    have e0 : chk b = 0 := by unfold chk; rw [hb]; rfl
    rw [e0] at KC
    clear e0
    obtain ⟨b1, b16⟩ := okB_range hb
    obtain ⟨V, hV⟩ : ∃ V, V = joinV L b := ⟨_, rfl⟩
    rw [← hV]
    have HV0 := Lib.hid hV
    clear hV
    have HOK := Lib.hid hb
    have HV := Lib.hid hv
    have HL := Lib.hid hl
    have hf0 : (w.alloc (.cells #[.pointer none, .slice none 0 0] 51)).heap[w.heap.size]? = some (.cells #[.pointer none, .slice none 0 0] 51) := heap_alloc_new w _
    have hbd := Lib.IsBuilderF.of (Lib.fresh_isBuilder 51 5 w)
    have HB0 := Lib.hid (show Bld w.heap.size (Lib.byteCells []) _ from hbd)
    have HF0 := Lib.hid hf0
    have HW0 := Lib.hid ((Below.refl w.heap.size w).alloc (Nat.le_refl _) (.cells #[.pointer none, .slice none 0 0] 51))
    clear hb hv hl hf0 hbd
    go_enter Tryd.func8, Tryd.ntmps8
    go_wp2_with fail
    refine (KC.out _).mono ?_
    rintro e w1 ⟨rfl, rfl⟩
    go_wp2_with fail
    go_loopw [19] (fun iv wr => ∃ k : Nat, k ≤ L.length ∧ iv = .int .i64 (k : Nat) ∧ (∀ j, j < k → wrongL L b j = 0) ∧ Bld w.heap.size (Lib.byteCells (catL (L.take k))) wr ∧ (k = 0 → wr.heap[w.heap.size]? = some (.cells #[.pointer none, .slice none 0 0] 51)) ∧ (catL (L.take k)).length ≤ 16 * k ∧ (0 < k → catL (L.take k) ≠ []) ∧ Below w.heap.size w wr) (fun iv _ => L.length - (intOf iv).toNat)
    case atStart => exact ⟨0, by omega, rfl, fun j h => by omega, HB0.out, fun _ => HF0.out, by simp [catL], fun h => by omega, HW0.out⟩
    case round =>
      obtain ⟨k, hk, rfl, hall, hBd, hfr, hcl, hne, hB⟩ := hrel
      have HALL := Lib.hid hall
      have HBD := Lib.hid hBd
      have HFR := Lib.hid hfr
      have HNE := Lib.hid hne
      have HB := Lib.hid hB
      have HVr := Lib.hid (Row.below HV.out hB)
      clear hall hBd hfr hne hB
      by_cases hlt : k < L.length
      · obtain ⟨g, o, hga, hg, hc0, hc1, hc2⟩ := Parts.at HVr.out hlt
        subst hga
        have i1 : (0 : Int) ≤ (k : Int) := by omega
        have i2 : (k : Int) < (L.length : Int) := by omega
        have hwo := fun h => wrong_ok (b := b) hlt h
        have hct := catL_take hlt
        obtain ⟨bs, r, f, hx⟩ : ∃ bs r f, L[k] = (bs, r, f) := ⟨_, _, _, rfl⟩
        rw [hx] at hwo hct hc0 hc1 hc2
        simp only at hwo hct hc0 hc1 hc2
        have HWO := Lib.hid hwo
        have HCT := Lib.hid hct
        have hst := size_str bs
        clear hx hwo hct
        go_wp2_with fail
        have HV1 := Lib.hid (Row.below HVr.out ((Below.refl wr.heap.size wr).alloc (Nat.le_refl _) (.cells #[.string (str bs), .int .i64 r, .int .i64 f] 33)))
        have HB1 := Lib.hid (HB.out.alloc HB.out.size (.cells #[.string (str bs), .int .i64 r, .int .i64 f] 33))
        have hn1 : (wr.alloc (.cells #[.string (str bs), .int .i64 r, .int .i64 f] 33)).heap[wr.heap.size]? = some (.cells #[.string (str bs), .int .i64 r, .int .i64 f] 33) := heap_alloc_new wr _
        have HN1 := Lib.hid hn1
        have HD1 := Lib.hid (HBD.out.below ((Below.refl wr.heap.size wr).alloc (Nat.le_refl _) (.cells #[.string (str bs), .int .i64 r, .int .i64 f] 33)))
        have hlw : wr.heap.size < (wr.alloc (.cells #[.string (str bs), .int .i64 r, .int .i64 f] 33)).heap.size := by simp
        clear hn1 hc0 hc1 hc2 HBD HFR HNE HVr HB
        refine (wrong_p _ L k b _ HV1.out hlt hn HL.out ⟨b1, b16⟩).mono ?_
        rintro e w2 ⟨rfl, hb2⟩
        have HB2 := Lib.hid (next HB1.out hb2)
        have HD2 := Lib.hid (HD1.out.below hb2)
        have hn2 := (hb2.block wr.heap.size hlw).trans HN1.out
        have d0 : w2.cell? ⟨wr.heap.size, 0, none⟩ = some (.string (str bs)) := by unfold World.cell?; rw [hn2]; rfl
        have d1 : w2.cell? ⟨wr.heap.size, 1, none⟩ = some (.int .i64 r) := by unfold World.cell?; rw [hn2]; rfl
        clear hb2 hn2 HN1 HD1 HB1 HV1
        by_cases hE : wrongL L b k = 0
        · obtain ⟨q1, q2, q3, _⟩ := HWO.out hE
          have HE := Lib.hid hE
          obtain ⟨rn, rfl⟩ : ∃ rn : Nat, r = rn := ⟨r.toNat, by omega⟩
          have hex := extract_str bs 0 rn
          rw [List.drop_zero] at hex
          have z0 : (0 : Int) ≤ (rn : Int) := by omega
          have z1 : (rn : Int) ≤ (bs.length : Int) := by omega
          have hct := HCT.out
          rw [Int.toNat_natCast] at hct
          have hlt2 := size_str (bs.take rn)
          have hlr : (bs.take rn).length = rn := by rw [List.length_take]; omega
          rw [hE]
          clear hE q1
          go_wp2_with fail
          refine (writeString_p _ _ _ _ HD2.out (by rw [Lib.byteCells_length]; omega) (by rw [hlt2, hlr]; omega)).mono ?_
          rintro e w3 ⟨rfl, hP⟩
          have h1 := hP.1
          have h2 := hP.2.1
          have e1 : Lib.strCells (str (bs.take rn)) = Lib.byteCells (bs.take rn) := rfl
          rw [e1, ← bcs_append, ← hct] at h1
          clear hP e1
          go_wp2_with fail
          exact ⟨⟨k + 1, by omega, by go_num, fun j hj => by
            by_cases h : j < k
            · exact HALL.out j h
            · obtain rfl : j = k := by omega
              exact HE.out, h1, fun h => by omega, by rw [hct, List.length_append, hlr]; omega, fun _ => by
                rw [hct]; intro h
                have := congrArg List.length h
                rw [List.length_append, hlr] at this
                simp at this; omega, HB2.out.trans h2⟩, by simp [intOf]; omega⟩
        · have t1 : (wrongL L b k != 0) = true := bne_iff_ne.2 hE
          have HJ := Lib.hid (join_bad HOK.out hlt HALL.out hE)
          obtain ⟨E, hEe⟩ : ∃ E, E = wrongL L b k := ⟨_, rfl⟩
          rw [← hEe] at HJ t1 ⊢
          clear hE hEe
          go_wp2_with fail
          go_ret3
          show JoinP V w _ _
          rw [HV0.out, HJ.out]
          exact ⟨rfl, HB2.out⟩
      · obtain rfl : L.length = k := by omega
        have i1 : ¬ ((L.length : Int) < (L.length : Int)) := by omega
        have HJ := Lib.hid (join_ok HOK.out HALL.out)
        rw [List.take_length] at HBD HNE
        by_cases h0 : L.length = 0
        · have HS := Lib.hid (string0_p w.heap.size wr (HFR.out h0))
          obtain rfl := List.length_eq_zero_iff.1 h0
          clear h0
          go_wp2_with fail
          refine HS.out.mono ?_
          rintro e w3 ⟨rfl, hb3⟩
          go_wp2_with fail
          go_ret3
          show JoinP V w _ _
          rw [HV0.out, HJ.out]
          exact ⟨rfl, HB.out.trans hb3⟩
        · have HS := Lib.hid (string_p w.heap.size (catL L) wr HBD.out (HNE.out (by omega)))
          clear h0
          go_wp2_with fail
          refine HS.out.mono ?_
          rintro e w3 ⟨rfl, hb3⟩
          go_wp2_with fail
          go_ret3
          show JoinP V w _ _
          rw [HV0.out, HJ.out]
          exact ⟨rfl, HB.out.trans hb3⟩
end Go.Proofs.YtfmngphmmhjicaaDoor
