/- Texts that the claims share, part 5. -/
import Derived.Test.YtpjllppbpnkemaaMg4
import Derived.Test.YtpjllppbpnkemaaMg2
import Derived.Laws.CopyOwn
import Derived.Deep.RegionLaw

/- slices.Repeat of one class. -/
namespace Go.Proofs.Ytpjllppbpnkemaa
open Go.RowKit Go.Sort

theorem and32 {n : Nat} (h : n < 4294967296) : bits .and .u64 (n : Int) 4294967295 = (n : Int) := by
  have := u64_and_nat n 4294967295 (by omega) (by decide)
  have e : n &&& 4294967295 = n := by
    have := Nat.and_two_pow_sub_one_eq_mod n 32
    rw [show (2 : Nat) ^ 32 - 1 = 4294967295 from rfl] at this
    rw [this, Nat.mod_eq_of_lt (by omega)]
  rw [e] at this
  exact this
set_option maxRecDepth 100000 in
set_option maxHeartbeats 4000000 in
theorem mul64_p (n : Nat) (h : n ≤ 5000) (w : World) : Calls Try.prog 84 #[.int .u64 1, .int .u64 (n : Int)] w fun e w' => e = .returned (.tuple #[.int .u64 0, .int .u64 (n : Int)]) ∧ w = w' := by
  have e1 := and32 (n := n) (by omega)
  have e2 : bits .and .u64 1 4294967295 = 1 := by decide
  have e3 : bits .and .u64 0 4294967295 = 0 := by decide
  have e4 : (n : Int) / 4294967296 = 0 := by omega
  have n0 : (0 : Int) ≤ (n : Int) := by omega
  have n1 : (n : Int) ≤ 5000 := by omega
  go_enter Try.func84, Try.ntmps84
  go_wp2_with fail
  go_ret2
  exact ⟨rfl, rfl⟩
set_option maxRecDepth 100000 in
set_option maxHeartbeats 4000000 in
theorem mul_p (n : Nat) (h : n ≤ 5000) (w : World) : Calls Try.prog 75 #[.int .u64 1, .int .u64 (n : Int)] w fun e w' => e = .returned (.tuple #[.int .u64 0, .int .u64 (n : Int)]) ∧ w = w' := by
  have n0 : (0 : Int) ≤ (n : Int) := by omega
  have n1 : (n : Int) ≤ 5000 := by omega
  go_enter Try.func75, Try.ntmps75
  go_wp2_with (go_at_call 84; refine (mul64_p n h _).mono ?_; rintro e w' ⟨rfl, rfl⟩)
  go_ret2
  exact ⟨rfl, rfl⟩

/-- copy of whole elements of any size -/
theorem run_copy_rowK {P : Program} (w : World) (dT sT ty elem : TypeId) (K g o dLen dCap : Nat) (a : Addr) (sLen sCap : Nat) (cur : Array Value) (t : TypeId) (cs : List Value)
    (hu : P.underlying dT = some (.slice elem)) (hs : (P.info? elem).map (·.size) = some K)
    (hg : w.heap[g]? = some (.cells cur t (0, 0))) (hn : cs.length = Nat.min sLen dLen * K)
    (hsrc : ∀ j v, cs[j]? = some v → w.cell? (a.add j) = some v) (hfit : o + cs.length ≤ cur.size) (h1 : ∀ v ∈ cs, v.oneCell' = true) :
    (Builtin.copy_ #[dT, sT] ty #[.slice (some ⟨g, o, none⟩) dLen dCap, .slice (some a) sLen sCap]).run P w =
      .ok (goInt (Nat.min sLen dLen)) (w.setRow g (cur.toList.take o ++ cs ++ cur.toList.drop (o + cs.length)).toArray) := by
  have hl := run_loadCells_list (P := P) w a cs hsrc
  have hst := run_storeCells_at P g o t cs 0 cur w hg (by simpa using hfit) h1
  cases hq : P.info? elem with
  | none => simp [hq] at hs
  | some i =>
    have hi : i.size = K := by simpa [hq] using hs
    simp [Builtin.copy_, run_underlying hu, Builtin.lenOf, Builtin.firstCells, sizeOf, typeInfo, hq, hi, ← hn, hl, hst]

/-- block G: N classes, of which the first m are s -/
def RAt (w : World) (G N m : Nat) (s : CSet) : Prop := ∃ cur : Array Value, w.heap[G]? = some (.cells cur 61 (0, 0)) ∧ cur.size = N * 4 ∧ cur.toList.take (m * 4) = ccells (List.replicate m s)
theorem RAt.lt {w : World} {G N m : Nat} {s : CSet} (h : RAt w G N m s) : G < w.heap.size := by
  obtain ⟨cur, h1, _⟩ := h
  exact (Array.getElem?_eq_some_iff.1 h1).1
theorem rep_cells (m : Nat) (s : CSet) : (ccells (List.replicate m s)).length = m * 4 := by rw [length_ccells, List.length_replicate]
theorem RAt.cell {w : World} {G N m : Nat} {s : CSet} (h : RAt w G N m s) {j : Nat} (hj : j < m * 4) : w.cell? ⟨G, j, none⟩ = (ccells (List.replicate m s))[j]? := by
  obtain ⟨cur, h1, h2, h3⟩ := h
  rw [← h3, List.getElem?_take_of_lt hj]
  unfold World.cell?
  rw [h1]
  simp
theorem rep_prefix {m k j : Nat} (s : CSet) (hk : k ≤ m) (hj : j < k * 4) : (ccells (List.replicate m s))[j]? = (ccells (List.replicate k s))[j]? := by
  obtain ⟨d, rfl⟩ : ∃ d, m = k + d := ⟨m - k, by omega⟩
  rw [← List.replicate_append_replicate, ccells_append, List.getElem?_append_left (by rw [rep_cells]; exact hj)]
theorem infoS : (Try.prog.info? 61).map (·.size) = some 4 := by kernel_rfl
theorem copy_sets {w : World} {G N m k : Nat} {s : CSet} (hr : RAt w G N m s) (a : Addr) (hs : ∀ j, j < k * 4 → w.cell? (a.add j) = (ccells (List.replicate k s))[j]?) (hmk : m + k ≤ N) (dLen dCap sLen sCap : Nat) (hk : Nat.min sLen dLen = k) :
    ∃ w', (Builtin.copy_ #[31, 31] 3 #[.slice (some ⟨G, m * 4, none⟩) dLen dCap, .slice (some a) sLen sCap]).run Try.prog w = .ok (.int .i64 (k : Int)) w' ∧ RAt w' G N (m + k) s ∧ ∀ B, B ≤ G → Below B w w' := by
  obtain ⟨cur, h1, h2, h3⟩ := hr
  have h := run_copy_rowK (P := Try.prog) w 31 31 3 61 4 G (m * 4) dLen dCap a sLen sCap cur 61 (ccells (List.replicate k s)) Try.underlying31 infoS h1
    (by rw [rep_cells, hk]) (fun j v hj => by
      have hjk : j < k * 4 := by have := (List.getElem?_eq_some_iff.1 hj).1; rwa [rep_cells] at this
      rw [hs j hjk, hj]) (by rw [rep_cells, h2]; omega) (ccells_one _)
  rw [hk] at h
  refine ⟨_, h, ⟨_, setRow_heap w G _ _ _ _ h1, ?_, ?_⟩, fun B hB => below_setRow (Below.refl _ _) hB _⟩
  · simp only [List.size_toArray, List.length_append, List.length_take, List.length_drop, rep_cells, Array.length_toList, h2]
    omega
  · rw [List.append_assoc, h3, ← List.append_assoc, ← ccells_append, List.replicate_append_replicate]
    simp only
    rw [List.take_append_of_le_length (by rw [rep_cells]; exact Nat.le_refl _), List.take_of_length_le (by rw [rep_cells]; exact Nat.le_refl _)]
theorem sets_made {w' : World} {base n g : Nat} {xs : List Value} {s : CSet} (hown : w'.ownsRow base 61 4 (.slice (some ⟨g, 0, none⟩) n n) n xs) : RAt w' g n 0 s := by
  rcases hown.2 with ⟨e, _⟩ | ⟨g1, cap, cur, he, hgb, hg, _, _, hs, ht⟩
  · cases e
  · cases he
    exact ⟨cur, hg, hs, by simp [ccells]⟩
theorem infoS3 : (Try.prog.info? 61).map (fun i => (i.zero, i.size, i.bytes)) = some (some (.agg #[.int .u64 0, .int .u64 0, .int .u64 0, .int .u64 0]), 4, 32) := by kernel_rfl
theorem natmin1 {N : Nat} (h : 1 ≤ N) : Nat.min 1 N = 1 := Nat.min_eq_left h
/-- n classes, freshly made -/
def RepP (w : World) (l : List CSet) (e : Ending) (w' : World) : Prop := ∃ v, e = .returned v ∧ w'.ownsRow w.heap.size 61 4 v l.length (ccells l) ∧ Below w.heap.size w w'
set_option maxRecDepth 100000 in
set_option maxHeartbeats 4000000 in
theorem repeat_p (g0 N : Nat) (s : CSet) (w : World) (h2 : N ≤ 5000) (hg0 : g0 < w.heap.size) (hr : ∀ j, j < 4 → w.cell? ⟨g0, j, none⟩ = (ccells [s])[j]?) :
    Calls Try.prog 58 #[.slice (some ⟨g0, 0, none⟩) 1 1, .int .i64 (N : Int)] w (RepP w (List.replicate N s)) := by
  obtain ⟨i0, hi, hz0, hz1, hz2⟩ := info_parts infoS3
  have n0 : ¬ (N : Int) < 0 := by omega
  have n1 : (N : Int) ≤ 5000 := by omega
  have hr0 := hr
  clear hr
  go_enter Try.func58, Try.ntmps58
  go_wp2_with (first
    | (go_at_call 75; refine (mul_p N h2 _).mono ?_; rintro e w' ⟨rfl, rfl⟩)
    | (at_make; refine wpList_make_full _ rfl _ _ 31 rfl w.heap.size 61 i0 _ 4 Try.underlying31 hi hz0 hz1 _ _ _ _ N rfl rfl (by omega) (by omega) (by rw [hz2]; omega) (by unfold maxLen; omega) (Nat.le_refl _) ?_; intro w1 hown hgrow; have hr1 := sets_made (s := s) hown; have hb1 : Below w.heap.size w w1 := (Below.refl _ _).grown hgrow (Nat.le_refl _) (fun q e => by cases e); obtain ⟨w2, hcp, hr2, hbc⟩ := copy_sets (m := 0) (k := Nat.min 1 N) hr1 ⟨g0, 0, none⟩ (fun j hj => by
        have hN : 1 ≤ N := by cases N with
          | zero => simp at hj
          | succ n => omega
        rw [natmin1 hN] at hj ⊢
        rw [Addr.add_lit, Nat.zero_add, hb1.cell (p := ⟨g0, j, none⟩) hg0]; exact hr0 j (by omega)) (by rw [Nat.zero_add]; exact Nat.min_le_right _ _) N N 1 1 rfl; have HR2 := Lib.hid hr2; have HB2 := Lib.hid (hb1.trans (hbc _ (Nat.le_refl _))); clear hown hgrow hr1 hb1 hr2 hbc))
  clear hr0
  generalize hG : w.heap.size = G at *
  have HG := Lib.hid hG
  clear hG
  have hm1 : Nat.min 1 N ≤ N := Nat.min_le_right _ _
  have hm2 : Nat.min 1 N = N ∨ 1 ≤ Nat.min 1 N := by cases N with
    | zero => exact .inl rfl
    | succ n => exact .inr (by rw [natmin1 (by omega)]; omega)
  rw [Nat.zero_add] at HR2
  generalize Nat.min 1 N = M at *
  go_loopw [8] (fun nv wr => ∃ m : Nat, (m = N ∨ 1 ≤ m) ∧ m ≤ N ∧ nv = .int .i64 (m : Nat) ∧ RAt wr G N m s ∧ Below G w wr) (fun nv _ => N - (intOf nv).toNat)
  case atStart => exact ⟨M, hm2, hm1, rfl, HR2.out, HB2.out⟩
  case round =>
    obtain ⟨m, hm3, hm4, rfl, hR, hB⟩ := hrel
    have HR := Lib.hid hR
    have HB := Lib.hid hB
    clear hm1 hm2 hcp
    by_cases hlt : m < N
    · have m0 : (0 : Int) ≤ (m : Int) := by omega
      have m1 : (m : Int) < (N : Int) := by omega
      have hsz : ∀ w', (sizeOf (Try.prog.elem 31)).run Try.prog w' = .ok 4 w' := fun w' => by kernel_rfl
      have hs1 : ∀ w', (Instr.slice 31 (.slice (some ⟨G, 0, none⟩) N N) (some (.int .i64 (m : Int))) none none).run Try.prog w' = .ok (.slice (some ⟨G, m * 4, none⟩) (N - m) (N - m)) w' := fun w' => by
        rw [run_slice_l (P := Try.prog) w' 31 (some ⟨G, 0, none⟩) N N (by kernel_rfl) .i64 (m : Int) (by omega) (by omega), hsz]
        simp only [Result.andThen, sliced, Int.toNat_natCast, if_neg (show ¬ N = m by omega), Option.map_some, Addr.add_lit, Nat.zero_add]
      have hs2 : ∀ w', (Instr.slice 31 (.slice (some ⟨G, 0, none⟩) N N) none (some (.int .i64 (m : Int))) none).run Try.prog w' = .ok (.slice (some ⟨G, 0, none⟩) m N) w' := fun w' => by
        rw [run_slice_h (P := Try.prog) w' 31 (some ⟨G, 0, none⟩) N N (by kernel_rfl) .i64 (m : Int) (by omega) (by omega), hsz]
        simp only [Result.andThen, sliced, Int.toNat_natCast, if_neg (show ¬ N = 0 by omega), Option.map_some, Addr.add_lit, Nat.zero_mul, Nat.add_zero, Nat.sub_zero]
      obtain ⟨k, hk⟩ : ∃ k, k = Nat.min m (N - m) := ⟨_, rfl⟩
      have hk1 : 1 ≤ k := by rw [hk]; exact Nat.le_min.2 ⟨by omega, by omega⟩
      have hk2 : k ≤ m := by rw [hk]; exact Nat.min_le_left _ _
      have hk3 : k ≤ N - m := by rw [hk]; exact Nat.min_le_right _ _
      obtain ⟨w3, hcp, hr3, hb3⟩ := copy_sets (w := wr.drew) (m := m) (k := k) hR ⟨G, 0, none⟩ (fun j hj => by
        have := (show RAt wr.drew G N m s from hR).cell (j := j) (by omega)
        rw [Addr.add_lit, Nat.zero_add, this]
        exact rep_prefix s hk2 hj) (by omega) (N - m) (N - m) m N hk.symm
      have wmk : IntKind.i64.wrap ((m : Int) + (k : Int)) = (m : Int) + (k : Int) := IntWalk.i64_in _ (by omega)
      have HR3 := Lib.hid hr3
      have HB3 := Lib.hid (HB.out.trans (((Below.refl _ _).drew).trans (hb3 G (Nat.le_refl _))))
      clear hr3 hb3 hR hB hk hsz
      go_wp2_with fail
      go_region
      all_goals
        go_wp2_with fail
        exact ⟨⟨m + k, by omega, by omega, by go_num, HR3.out, HB3.out⟩, by simp [intOf]; omega⟩
    · obtain rfl : m = N := by omega
      have m1 : ¬ ((m : Int) < (m : Int)) := by omega
      clear hR hB
      go_wp2_with fail
      go_ret
      refine show RepP _ _ _ _ from ⟨_, rfl, ?_, by rw [HG.out]; exact HB.out⟩
      obtain ⟨cur, q1, q2, q3⟩ := HR.out
      rw [List.length_replicate, HG.out]
      exact ⟨rep_cells _ _, .inr ⟨G, m, cur, rfl, Nat.le_refl _, q1, Nat.le_refl _, by unfold maxLen; omega, q2, q3⟩⟩
end Go.Proofs.Ytpjllppbpnkemaa

/- Lines of choices, plainly. -/
namespace Go.Proofs.Ytpjllppbpnkemaa
open Go.RowKit Go.Sort

theorem not_zero : ~~~(0#256 : CSet) = fullS := by unfold fullS; simp
def lineL : List El → List Int → List CSet
  | [], _ => []
  | x :: p, c => if x.gap then List.replicate (c.headD 0).toNat fullS ++ lineL p c.tail else x.cls :: lineL p c
theorem drop_tail' (c : List Int) (n : Nat) : c.tail.drop n = c.drop (n + 1) := by cases c <;> simp
theorem lineL_append : ∀ (a b : List El) (c : List Int), lineL (a ++ b) c = lineL a c ++ lineL b (c.drop (gapsV a).length)
  | [], b, c => by simp [lineL, gapsV]
  | x :: a, b, c => by
    cases hx : x.gap
    · simp only [List.cons_append, lineL, hx, Bool.false_eq_true, if_false, lineL_append a b c]
      simp [gapsV, hx]
    · simp only [List.cons_append, lineL, hx, if_true, lineL_append a b c.tail, List.append_assoc]
      simp [gapsV, hx]
theorem lineL_gap {p : List El} {i : Nat} {c : List Int} (h : i < p.length) (hg : p[i].gap = true) (hk : (gapsV (p.take i)).length < c.length) :
    lineL (p.take (i + 1)) c = lineL (p.take i) c ++ List.replicate (c[(gapsV (p.take i)).length]).toNat fullS := by
  rw [List.take_succ_eq_append_getElem h, lineL_append]
  congr 1
  simp only [lineL, hg, if_true]
  simp [List.headD_eq_head?_getD, List.head?_drop, List.getElem?_eq_getElem hk]
theorem lineL_one {p : List El} {i : Nat} {c : List Int} (h : i < p.length) (hg : p[i].gap = false) : lineL (p.take (i + 1)) c = lineL (p.take i) c ++ [p[i].cls] := by
  rw [List.take_succ_eq_append_getElem h, lineL_append]
  congr 1
  simp only [lineL, hg, Bool.false_eq_true, if_false]
def inR (x : El) (n : Int) : Bool := decide (x.low ≤ n) && decide (n ≤ x.high)
def rngOk : List El → List Int → Bool
  | x :: g, n :: c => inR x n && rngOk g c
  | _, _ => true
theorem rngOk_at : ∀ {g : List El} {c : List Int}, rngOk g c = true → ∀ i (h : i < g.length) (h' : i < c.length), inR g[i] c[i] = true
  | x :: g, n :: c, h, 0, _, _ => by simp only [rngOk, Bool.and_eq_true] at h; exact h.1
  | x :: g, n :: c, h, i + 1, h1, h2 => by
    simp only [rngOk, Bool.and_eq_true] at h
    exact rngOk_at h.2 i (by simpa using h1) (by simpa using h2)
theorem rngOk_of : ∀ {g : List El} {c : List Int}, (∀ i (h : i < g.length) (h' : i < c.length), inR g[i] c[i] = true) → rngOk g c = true
  | [], _, _ => by simp [rngOk]
  | _ :: _, [], _ => by simp [rngOk]
  | x :: g, n :: c, h => by
    simp only [rngOk, Bool.and_eq_true]
    exact ⟨h 0 (by simp) (by simp), rngOk_of fun i h1 h2 => h (i + 1) (by simpa using h1) (by simpa using h2)⟩
def lineE (p : List El) (c : List Int) : Int := if (checkV p).2 ≠ 0 then (checkV p).2 else if (gapsV p).length ≠ c.length then 6 else if rngOk (gapsV p) c = false then 7 else 0
def lineV (p : List El) (c : List Int) : List CSet := if lineE p c = 0 then lineL p c else []
theorem lineE_chk {p : List El} {c : List Int} {E : Int} (h : (checkV p).2 = E) (h0 : E ≠ 0) : lineE p c = E := by unfold lineE; rw [if_pos (h ▸ h0), h]
theorem lineE_len {p : List El} {c : List Int} (h : (checkV p).2 = 0) (h1 : (gapsV p).length ≠ c.length) : lineE p c = 6 := by unfold lineE; rw [if_neg (by rw [h]; simp), if_pos h1]
theorem lineE_rng {p : List El} {c : List Int} (h : (checkV p).2 = 0) (h1 : (gapsV p).length = c.length) (h2 : rngOk (gapsV p) c = false) : lineE p c = 7 := by unfold lineE; rw [if_neg (by rw [h]; simp), if_neg (by omega), if_pos h2]
theorem lineE_ok {p : List El} {c : List Int} (h : (checkV p).2 = 0) (h1 : (gapsV p).length = c.length) (h2 : rngOk (gapsV p) c = true) : lineE p c = 0 := by unfold lineE; rw [if_neg (by rw [h]; simp), if_neg (by omega), if_neg (by rw [h2]; decide)]
theorem lineV_bad {p : List El} {c : List Int} {E : Int} (h : lineE p c = E) (h0 : E ≠ 0) : lineV p c = [] := by unfold lineV; rw [if_neg (h ▸ h0)]
theorem lineV_ok {p : List El} {c : List Int} (h : lineE p c = 0) : lineV p c = lineL p c := by unfold lineV; rw [if_pos h]
theorem gaps_take_lt {p : List El} {i : Nat} (h : i < p.length) (hg : p[i].gap = true) : (gapsV (p.take i)).length < (gapsV p).length := by
  have h1 := gaps_yes h hg
  have h2 : (gapsV (p.take (i + 1))).length ≤ (gapsV p).length := by
    unfold gapsV
    exact ((List.take_sublist _ _).filter _).length_le
  rw [h1] at h2
  simp at h2; omega
theorem gaps_at {p : List El} {i : Nat} (h : i < p.length) (hg : p[i].gap = true) : (gapsV p)[(gapsV (p.take i)).length]? = some p[i] := by
  have e : gapsV p = gapsV (p.take i) ++ p[i] :: gapsV (p.drop (i + 1)) := by
    have h1 : p = p.take i ++ p[i] :: p.drop (i + 1) := by rw [← List.drop_eq_getElem_cons h, List.take_append_drop]
    conv => lhs; rw [h1]
    unfold gapsV
    rw [List.filter_append, List.filter_cons_of_pos (by simpa using hg)]
  rw [e, List.getElem?_append_right (Nat.le_refl _), Nat.sub_self]
  rfl
theorem choice_in {p : List El} {c : List Int} {i : Nat} (hok : OkP p) (hl : (gapsV p).length = c.length) (hr : rngOk (gapsV p) c = true) (h : i < p.length) (hg : p[i].gap = true) (hk : (gapsV (p.take i)).length < c.length) :
    0 ≤ c[(gapsV (p.take i)).length] ∧ c[(gapsV (p.take i)).length] ≤ 16 := by
  have h1 := rngOk_at hr _ (by omega) hk
  have h2 := gaps_at h hg
  rw [List.getElem?_eq_getElem (by omega)] at h2
  simp only [Option.some.injEq] at h2
  rw [h2] at h1
  obtain ⟨_, h3, h4, h5, _⟩ := hok.gap h hg
  simp only [inR, Bool.and_eq_true, decide_eq_true_eq] at h1
  omega
end Go.Proofs.Ytpjllppbpnkemaa

/- Line of the program. -/
namespace Go.Proofs.Ytpjllppbpnkemaa
open Go.RowKit Go.Sort Go.Shelf

theorem row_cutS {w : World} {s n cap : Nat} {a : Option Addr} {xs : List Value} (h : Row w s (.slice a n cap) n xs) {lo hi : Nat} (h1 : lo ≤ hi) (h2 : hi ≤ n) (hc : n ≤ cap) :
    Row w s (.slice (if cap = lo then a else a.map (·.add (lo * s))) (hi - lo) (cap - lo)) (hi - lo) ((xs.take (hi * s)).drop (lo * s)) := by
  obtain ⟨hl, hm, a', cap', e, hn, hr⟩ := h
  cases e
  have hmul : hi * s ≤ n * s := Nat.mul_le_mul_right _ h2
  have hlen : ((xs.take (hi * s)).drop (lo * s)).length = (hi - lo) * s := by rw [List.length_drop, List.length_take, hl, Nat.sub_mul, Nat.min_eq_left hmul]
  refine ⟨hlen, by omega, _, _, rfl, fun h0 => ?_, ?_⟩
  · by_cases hcl : cap = lo
    · omega
    · rw [if_neg hcl] at h0
      cases a with
      | none => have := hn rfl; omega
      | some a => simp at h0
  · by_cases h0 : hi - lo = 0
    · exact .inl h0
    · right
      rcases hr with hr | ⟨g, o, rfl, hr⟩
      · omega
      · rw [if_neg (by omega)]
        refine ⟨g, o + lo * s, by simp [Addr.add], fun j hj => ?_⟩
        have hj2 : lo * s + j < hi * s := by rw [Nat.sub_mul] at hj; omega
        rw [List.getElem?_drop, List.getElem?_take, if_pos hj2, ← hr (lo * s + j) (by omega), Nat.add_assoc]
theorem ints_tail {w : World} {a : Option Addr} {n cap : Nat} {c : List Int} (h : Row w 1 (.slice a n cap) n (icell c)) (hn : n = c.length) (hc : n ≤ cap) (h1 : 1 ≤ n) :
    ∃ a' cap', (∀ w', (Instr.slice 34 (.slice a n cap) (some (.int .i64 1)) none none).run Try.prog w' = .ok (.slice a' (n - 1) cap') w') ∧ Row w 1 (.slice a' (n - 1) cap') (n - 1) (icell (c.drop 1)) ∧ n - 1 ≤ cap' := by
  refine ⟨if cap = 1 then a else a.map (·.add (1 * 1)), cap - 1, fun w' => ?_, ?_, by omega⟩
  · have hsz : ∀ w', (sizeOf (Try.prog.elem 34)).run Try.prog w' = .ok 1 w' := fun w' => by kernel_rfl
    rw [run_slice_l (P := Try.prog) w' 34 a n cap (by kernel_rfl) .i64 1 (by omega) (by omega), hsz]
    simp only [Result.andThen, sliced, show (1 : Int).toNat = 1 from rfl]
  · have := row_cutS h h1 (Nat.le_refl _) hc
    rw [Nat.mul_one, Nat.mul_one, List.take_of_length_le (by simp [hn])] at this
    rw [show icell (c.drop 1) = (icell c).drop 1 by simp [icell]]
    exact this
theorem setV_zero : setV 0#256 = .agg #[.int .u64 0, .int .u64 0, .int .u64 0, .int .u64 0] := by
  have h0 : word 0#256 0 = 0 := by decide
  have h1 : word 0#256 1 = 0 := by decide
  have h2 : word 0#256 2 = 0 := by decide
  have h3 : word 0#256 3 = 0 := by decide
  simp [setV, setC, h0, h1, h2, h3]
theorem app_cl {w : World} {base : Nat} {v v2 : Value} {l m : List CSet} (hown : w.ownsRow base 61 4 v l.length (ccells l)) (hr : Line w v2 m) (hl : l.length + m.length ≤ 20000) (hbase : base ≤ w.heap.size) :
    ∃ a cap w', (Builtin.append_ #[31, 31] 31 #[v, v2]).run Try.prog w = .ok (.slice a (l ++ m).length cap) w' ∧ w'.ownsRow base 61 4 (.slice a (l ++ m).length cap) (l ++ m).length (ccells (l ++ m)) ∧ Below base w w' := by
  obtain ⟨j0, hj, hy0, hy1, hy2⟩ := info_parts infoS3
  obtain ⟨v', w', h1, h2, h3⟩ := append_row (P := Try.prog) base 31 31 61 Try.underlying31 hj hy0 hy1 hy2 rfl (by decide) hown hr (ccells_one _) (by unfold maxLen; omega) (by omega) hbase
  rw [← List.length_append, ← ccells_append] at h2
  obtain ⟨a, cap, rfl⟩ := Row.form2 (Row.of_owns h2)
  exact ⟨a, cap, w', h1, h2, (Below.refl base w).grown h3 hbase (fun q e => (hown.lt q e).1)⟩
abbrev scells (s : CSet) : Array Value := #[.int .u64 (word s 0 : Int), .int .u64 (word s 1 : Int), .int .u64 (word s 2 : Int), .int .u64 (word s 3 : Int)]
theorem lit_cl (W : World) (s : CSet) : Line (W.alloc (.cells (scells s) 61)) (.slice (some ⟨W.heap.size, 0, none⟩) 1 1) [s] := by
  have := Row.lit W 61 4 1 (ccells [s]) (by simp [ccells]) (by unfold maxLen; omega)
  exact this
theorem lit_cells (W : World) (s : CSet) : ∀ j, j < 4 → (W.alloc (.cells (scells s) 61)).cell? ⟨W.heap.size, j, none⟩ = (ccells [s])[j]? := by
  intro j hj
  have hn : (W.alloc (.cells (scells s) 61)).heap[W.heap.size]? = some (.cells (scells s) 61) := heap_alloc_new W _
  have e : ((ccells [s])[j]?) = (scells s)[j]? := by simp [ccells, scells]
  unfold World.cell?
  rw [hn, e]
  rfl
theorem step_append_run {P : Program} {ops : Array Oper} {o : Oper} {a : Act} {w w' : World} {K : Act → World → Prop} {Q : Exit → Act → World → Prop} {E : Prop} {x1 x2 v : Value}
    (hg : o.guard = none) (s x : Operand) (t : TypeId) (hop : o.op = Op.call { callee := Callee.builtin Builtin.append, args := #[s, x], argTypes := #[t, t] }) (hs : a.eval s = x1) (hx : a.eval x = x2)
    (hrun : (Builtin.append_ #[t, t] o.type #[x1, x2]).run P w = .ok v w') (hK : K (a.put o.dst v) w') : if Region.wanted o (yielded ops a.tmps) = true then Oper.wp P o a w K Q else E := by
  have hw : Region.wanted o (yielded ops a.tmps) = true := by simp [Region.wanted, hg]
  rw [if_pos hw]
  unfold Oper.wp
  simp [execOp, hop, resolve, invoke, builtin, hs, hx, hrun, Result.andThen]
  exact hK
def LineP (p : List El) (c : List Int) (w : World) (e : Ending) (w' : World) : Prop :=
  ∃ v, e = .returned (.tuple #[v, .int .i64 (lineE p c)]) ∧ w'.ownsRow w.heap.size 61 4 v (lineV p c).length (ccells (lineV p c)) ∧ Below w.heap.size w w'
def inRange (g : List El) (c : List Int) (i : Nat) : Prop := ∀ j (h : j < g.length) (h' : j < c.length), j < i → inR g[j] c[j] = true
set_option maxRecDepth 100000 in
set_option maxHeartbeats 8000000 in
theorem line_p (v : Value) (ua : Option Addr) (ucap : Nat) (p : List El) (c : List Int) (w : World) (h : Pats w v p) (hc : Nums w (.slice ua c.length ucap) c) (hcap : c.length ≤ ucap) :
    Calls Try.prog 27 #[v, .slice ua c.length ucap] w (LineP p c w) := by
  have HP := Lib.hid h
  have HU := Lib.hid hc
  have KC := Lib.hid (check_p v p w h)
  have hmx : c.length ≤ maxLen := hc.2.1
  unfold maxLen at hmx
  obtain ⟨a, cap, rfl⟩ := Row.form2 h
  unfold LineP
  by_cases h0 : (checkV p).2 = 0
  · have hok := okP_of h0
    have KG := Lib.hid (fun (w1 : World) (hb : Below w.heap.size w w1) => gaps_p _ p w1 (Row.below HP.out hb) (by have := hok.le; omega))
    rw [checkV_ok h0] at KC
    have hle := hok.le
    have HOK := Lib.hid hok
    by_cases h1 : (gapsV p).length = c.length
    · have HL := Lib.hid h1
      have t1 : (((gapsV p).length : Int) != (c.length : Int)) = false := by rw [h1]; simp
      have HCK := Lib.hid h0
      have KN := Lib.hid (fun W => not_p 0#256 W)
      rw [setV_zero, not_zero] at KN
      clear h hc h0 h1 hok
      go_enter Try.func27, Try.ntmps27
      go_wp2_with fail
      with_reducible refine KC.out.mono ?_
      rintro e w1 ⟨rfl, hb1⟩
      have HB1 := Lib.hid hb1
      have KG1 := Lib.hid (KG.out w1 hb1)
      clear hb1 KG KC
      go_wp2_with fail
      with_reducible refine KG1.out.mono ?_
      rintro e w2 ⟨gv, rfl, ho, hb2⟩
      have HB2 := Lib.hid (next HB1.out hb2)
      have HG := Lib.hid (Row.of_owns ho)
      obtain ⟨ga, gc, rfl⟩ := Row.form2 (Row.of_owns ho)
      clear hb2 ho KG1
      have hgc := HL.out
      go_wp2_with fail
      go_loopw [32] (fun iv wr => ∃ i : Nat, i ≤ c.length ∧ iv = .int .i64 (i : Nat) ∧ inRange (gapsV p) c i ∧ Below w2.heap.size w2 wr) (fun iv _ => c.length - (intOf iv).toNat)
      case atStart => exact ⟨0, by omega, rfl, fun j _ _ hj => absurd hj (by omega), Below.refl _ _⟩
      case round =>
        obtain ⟨i, hi, rfl, hir, hB⟩ := hrel
        have HB := Lib.hid hB
        have HIR := Lib.hid hir
        have HBW := Lib.hid (next HB2.out hB)
        clear hB hir
        by_cases hlt : i < c.length
        · have hlg : i < (gapsV p).length := by omega
          obtain ⟨g, o, hga, hg, d0, d1, d2, d3, d4, d5, d6⟩ := Pats.at (Row.below HG.out HB.out) hlg
          subst hga
          obtain ⟨gu, ou, hgu, hu, du⟩ := Nums.at' (Row.below HU.out HBW.out) hlt hlt
          subst hgu
          have i1 : (0 : Int) ≤ (i : Int) := by omega
          have i2 : (i : Int) < (c.length : Int) := by omega
          have wi1 : IntKind.i64.wrap ((i : Int) + 1) = (i : Int) + 1 := IntWalk.i64_in _ (by omega)
          have HBA := Lib.hid (HB.out.alloc HB.out.size (.cells (ecells (gapsV p)[i]) 64))
          have HBF := Lib.hid (next HB2.out HBA.out)
          have c5 := fun d os => cell_regrown (cell_in (heap_alloc_new wr (.cells (ecells (gapsV p)[i]) 64)) (i := 5) rfl) d os
          have c6 := fun d os => cell_regrown (cell_in (heap_alloc_new wr (.cells (ecells (gapsV p)[i]) 64)) (i := 6) rfl) d os
          have c7 := fun d os => cell_regrown (Lib.cell?_alloc_some (o := .cells (ecells (gapsV p)[i]) 64) du) d os
          have HNX := Lib.hid (show inR (gapsV p)[i] c[i] = true → inRange (gapsV p) c (i + 1) from fun hq j h h' hj => by
            by_cases e : j = i
            · subst e; exact hq
            · exact HIR.out j h h' (by omega))
          have HBD := Lib.hid (show inR (gapsV p)[i] c[i] = false → lineE p c = 7 from fun hq => by
            refine lineE_rng HCK.out HL.out ?_
            cases hr : rngOk (gapsV p) c
            · rfl
            · rw [rngOk_at hr i hlg hlt] at hq; cases hq)
          have HIN := Lib.hid (show inR (gapsV p)[i] c[i] = (decide ((gapsV p)[i].low ≤ c[i]) && decide (c[i] ≤ (gapsV p)[i].high)) from rfl)
          unfold ecells at HBA HBF c5 c6 c7
          clear hgc
          generalize (gapsV p)[i] = x at *
          generalize c[i] = n at *
          by_cases q1 : n < x.low
          · have E7 := Lib.hid (HBD.out (by rw [HIN.out, decide_eq_false (by omega), Bool.false_and]))
            have V7 := Lib.hid (lineV_bad E7.out (by decide))
            clear HNX HBD HIN
            go_wp2_with fail
            refine wp_region_quiet_below (by kernel_rfl) (by kernel_rfl) ?_
            repeat (go_big_quiet_step (fail))
            refine wpQuiet_nil ?_
            intro _ hw'
            obtain ⟨⟨dq, osq⟩, hw''⟩ := hw'
            subst hw''
            have HBF2 := Lib.hid (next HBF.out (below_regrown _ dq osq))
            clear c5 c6 c7 d0 d1 d2 d3 d4 d5 d6 du
            go_wp2_with fail
            go_ret2
            exact ⟨_, by rw [E7.out]; rfl, by rw [V7.out]; exact World.ownsRow_nil _ _ _ _, HBF2.out⟩
          · have q1d : decide (n < x.low) = false := decide_eq_false q1
            by_cases q2 : x.high < n
            · have q2d : decide (x.high < n) = true := decide_eq_true q2
              have E7 := Lib.hid (HBD.out (by rw [HIN.out, decide_eq_true (by omega), decide_eq_false (by omega)]; rfl))
              have V7 := Lib.hid (lineV_bad E7.out (by decide))
              clear HNX HBD HIN
              go_wp2_with fail
              refine wp_region_quiet_below (by kernel_rfl) (by kernel_rfl) ?_
              repeat (go_big_quiet_step (fail))
              refine wpQuiet_nil ?_
              intro _ hw'
              obtain ⟨⟨dq, osq⟩, hw''⟩ := hw'
              subst hw''
              have HBF2 := Lib.hid (next HBF.out (below_regrown _ dq osq))
              clear c5 c6 c7 d0 d1 d2 d3 d4 d5 d6 du
              go_wp2_with fail
              go_ret2
              exact ⟨_, by rw [E7.out]; rfl, by rw [V7.out]; exact World.ownsRow_nil _ _ _ _, HBF2.out⟩
            · have q2d : decide (x.high < n) = false := decide_eq_false q2
              have HNX2 := Lib.hid (HNX.out (by rw [HIN.out, decide_eq_true (by omega), decide_eq_true (by omega)]; rfl))
              clear HNX HBD HIN
              go_wp2_with fail
              refine wp_region_quiet_below (by kernel_rfl) (by kernel_rfl) ?_
              repeat (go_big_quiet_step (fail))
              refine wpQuiet_nil ?_
              intro _ hw'
              obtain ⟨⟨dq, osq⟩, hw''⟩ := hw'
              subst hw''
              have HBA2 := Lib.hid (next HBA.out (below_regrown _ dq osq))
              clear c5 c6 c7 d0 d1 d2 d3 d4 d5 d6 du
              go_wp2_with fail
              exact ⟨⟨i + 1, by omega, by go_num, HNX2.out, HBA2.out⟩, by simp [intOf] <;> omega⟩
        · obtain rfl : i = c.length := by omega
          have HRK := Lib.hid (rngOk_of fun j h h' => HIR.out j h h' h')
          have HE := Lib.hid (lineE_ok HCK.out HL.out HRK.out)
          have HV := Lib.hid (lineV_ok HE.out)
          have hw1 := HBW.out.size
          have K1 := Lib.hid (KN.out wr)
          simp only [setV, setC] at K1
          clear HIR KN
          have i2 : ¬ (c.length : Int) < (c.length : Int) := by omega
          go_wp2_with fail
          with_reducible refine K1.out.mono ?_
          rintro e w4 ⟨rfl, hb4⟩
          have HB4 := Lib.hid (next HBW.out hb4)
          have hw4 := HB4.out.size
          have hs0 : (w4.alloc (.cells (scells fullS) 61)).heap.size = w4.heap.size + 1 := by simp
          have HN0 := Lib.hid (show (w4.alloc (.cells (scells fullS) 61)).heap[w4.heap.size]? = some (.cells (scells fullS) 61) from heap_alloc_new w4 _)
          have HBW0 := Lib.hid (HB4.out.alloc hw4 (.cells (scells fullS) 61))
          clear hb4 K1 hw1
          go_wp2_with fail
          obtain ⟨W0, hW0⟩ : ∃ W0, w4.alloc (.cells (scells fullS) 61) = W0 := ⟨_, rfl⟩
          rw [hW0] at HN0 HBW0 hs0
          unfold scells at hW0
          rw [hW0]
          clear hW0
          generalize w4.heap.size = T at *
          go_loopw [1, 12, 58] (fun cv ov iv wr => ∃ (i : Nat) (ow : Value) (ca : Option Addr) (cc M : Nat), ow = ov ∧ cv = .slice ca M cc ∧ i ≤ p.length ∧ iv = .int .i64 (i : Nat) ∧ M = c.length - (gapsV (p.take i)).length ∧
            M ≤ cc ∧ Row w 1 (.slice ca M cc) M (icell (c.drop (gapsV (p.take i)).length)) ∧
            (lineL (p.take i) c).length ≤ 16 * i ∧ wr.ownsRow W0.heap.size 61 4 ow (lineL (p.take i) c).length (ccells (lineL (p.take i) c)) ∧ Below W0.heap.size W0 wr) (fun _ _ iv _ => p.length - (intOf iv).toNat)
          case atStart => exact ⟨0, _, _, _, _, rfl, rfl, by omega, rfl, rfl, hcap, HU.out, by simp [lineL], World.ownsRow_nil _ _ _ _, Below.refl _ _⟩
          case round =>
            obtain ⟨i, ow, ca, cc, M, rfl, rfl, hi, rfl, hM, hkc, hcu, hll, hown, hB⟩ := hrel
            have HB := Lib.hid hB
            have HO := Lib.hid hown
            have HCU := Lib.hid hcu
            have HBW := Lib.hid (next HBW0.out hB)
            have HM := Lib.hid hM
            clear hown hB hcu hM
            by_cases hlt : i < p.length
            · obtain ⟨g, o, hga, hg, d0, d1, d2, d3, d4, d5, d6⟩ := Pats.at (Row.below HP.out HBW.out) hlt
              subst hga
              have i1 : (0 : Int) ≤ (i : Int) := by omega
              have i3 : (i : Int) < (p.length : Int) := by omega
              have wi1 : IntKind.i64.wrap ((i : Int) + 1) = (i : Int) + 1 := IntWalk.i64_in _ (by omega)
              have HBA := Lib.hid (HB.out.alloc HB.out.size (.cells (ecells p[i]) 64))
              have HOA := Lib.hid (HO.out.alloc (.cells (ecells p[i]) 64))
              cases hg0 : p[i].gap
              · have HN := Lib.hid (lineL_one (c := c) hlt hg0)
                have HGN := Lib.hid (gaps_no hlt hg0)
                have hr := lit_cl (wr.alloc (.cells (ecells p[i]) 64)) p[i].cls
                have hal : Below W0.heap.size (wr.alloc (.cells (ecells p[i]) 64)) ((wr.alloc (.cells (ecells p[i]) 64)).alloc (.cells (scells p[i].cls) 61)) := (Below.refl _ _).alloc HBA.out.size _
                obtain ⟨aa, acc, wa, hra, hoa, hba⟩ := app_cl (HOA.out.alloc (.cells (scells p[i].cls) 61)) hr (by simp only [List.length_cons, List.length_nil]; omega) (Nat.le_trans HBA.out.size (by simp))
                rw [← HN.out] at hra hoa
                generalize Value.slice aa _ acc = va at hra hoa
                have HRA := Lib.hid hra
                have HO4 := Lib.hid hoa
                have HB4 := Lib.hid (HBA.out.trans (hal.trans hba))
                have HLL := Lib.hid (show (lineL (p.take (i + 1)) c).length ≤ 16 * (i + 1) by rw [HN.out, List.length_append, List.length_singleton]; omega)
                rw [World.size_alloc] at HRA
                unfold ecells at HRA
                unfold scells at HRA
                rw [hg0] at d0 HRA
                clear hg0 hra hoa hba hal hr HOA HBA
                go_wp2_with (at_builtin; refine wpList_append_run rfl rfl rfl rfl HRA.out ?_)
                refine ⟨⟨i + 1, _, ca, cc, M, rfl, rfl, by omega, by go_num, by rw [HGN.out]; exact HM.out, hkc, by rw [HGN.out]; exact HCU.out, HLL.out, HO4.out, HB4.out⟩, by simp [intOf] <;> omega⟩
              · have hk : (gapsV (p.take i)).length < c.length := by rw [← HL.out]; exact gaps_take_lt hlt hg0
                have HN := Lib.hid (lineL_gap hlt hg0 hk)
                have HGN := Lib.hid (show (gapsV (p.take (i + 1))).length = (gapsV (p.take i)).length + 1 by rw [gaps_yes hlt hg0, List.length_append]; rfl)
                have hci := choice_in HOK.out HL.out HRK.out hlt hg0 hk
                obtain ⟨k, hkk⟩ : ∃ k, k = (gapsV (p.take i)).length := ⟨_, rfl⟩
                rw [← hkk] at HCU HGN HM
                simp only [← hkk] at hk HN hci
                have hM := HM.out
                have m0 : (0 : Int) < (M : Int) := by omega
                have m1 : 0 < M := by omega
                have HKK := Lib.hid hkk
                obtain ⟨gu, ou, hgu, hu, du⟩ := Nums.at' HCU.out (i := 0) (by omega) (by rw [List.length_drop]; omega)
                subst hgu
                obtain ⟨N, hN⟩ : ∃ N : Nat, c[k] = (N : Int) := ⟨(c[k]).toNat, by omega⟩
                rw [List.getElem_drop] at du
                simp only [Nat.add_zero, hN] at du
                rw [hN, Int.toNat_natCast] at HN
                have hN16 : N ≤ 16 := by omega
                obtain ⟨ca2, cc2, hct, hrt, hct2⟩ := ints_tail HCU.out (by rw [List.length_drop]; exact hM) hkc (by omega)
                rw [List.drop_drop] at hrt
                have HRT := Lib.hid hrt
                have KR := Lib.hid (fun (W : World) => repeat_p W.heap.size N fullS (W.alloc (.cells (scells fullS) 61)) (by omega) (by simp) (lit_cells W fullS))
                have hgW : gu < W0.heap.size := by have := HBW0.out.size; omega
                have c1 : W0.cell? ⟨gu, ou, none⟩ = some (.int .i64 (N : Int)) := (HBW0.out.cell (p := ⟨gu, ou, none⟩) hu).trans du
                have FAC := Lib.hid (show ∀ w', Below W0.heap.size W0 w' → ((w'.cell? ⟨T, 0, none⟩ = some (.int .u64 (word fullS 0 : Int)) ∧ w'.cell? ⟨T, 1, none⟩ = some (.int .u64 (word fullS 1 : Int))) ∧ w'.cell? ⟨T, 2, none⟩ = some (.int .u64 (word fullS 2 : Int)) ∧ w'.cell? ⟨T, 3, none⟩ = some (.int .u64 (word fullS 3 : Int))) ∧ w'.cell? ⟨gu, ou, none⟩ = some (.int .i64 (N : Int)) from fun w' hb => by
                  have bT := (hb.block T (by omega)).trans HN0.out
                  exact ⟨⟨⟨cell_in bT (i := 0) rfl, cell_in bT (i := 1) rfl⟩, cell_in bT (i := 2) rfl, cell_in bT (i := 3) rfl⟩, (hb.cell (p := ⟨gu, ou, none⟩) hgW).trans c1⟩)
                have hsz : (wr.alloc (.cells (ecells p[i]) 64)).drew.heap.size = wr.heap.size + 1 := by simp [World.drew]
                have KR1 := KR.out ((wr.alloc (.cells (ecells p[i]) 64)).drew)
                rw [hsz] at KR1
                have KR1 := Lib.hid KR1
                have HBC := Lib.hid ((HBA.out.drew).alloc HBA.out.drew.size (.cells (scells fullS) 61))
                have HOC := Lib.hid (World.ownsRow.alloc (show (wr.alloc (.cells (ecells p[i]) 64)).drew.ownsRow W0.heap.size 61 4 ow (lineL (p.take i) c).length (ccells (lineL (p.take i) c)) from HOA.out) (.cells (scells fullS) 61))
                obtain ⟨⟨⟨e0, e1⟩, e2, e3⟩, c0⟩ := FAC.out _ HBA.out
                clear hci hkk hk hrt hN du hM hsz KR HBA HOA c1
                unfold ecells at HBC HOC KR1 c0 e0 e1 e2 e3
                unfold scells at HBC HOC KR1
                rw [hg0] at d0 HBC HOC KR1 c0 e0 e1 e2 e3
                clear hg0
                go_wp2_with fail
                go_region_held3 (fun w' => ((w'.cell? ⟨T, 0, none⟩ = some (.int .u64 (word fullS 0 : Int)) ∧ w'.cell? ⟨T, 1, none⟩ = some (.int .u64 (word fullS 1 : Int))) ∧ w'.cell? ⟨T, 2, none⟩ = some (.int .u64 (word fullS 2 : Int)) ∧ w'.cell? ⟨T, 3, none⟩ = some (.int .u64 (word fullS 3 : Int))) ∧ w'.cell? ⟨gu, ou, none⟩ = some (.int .i64 (N : Int))) (go_keep)
                  (first
                    | (go_at_call 58; refine KR1.out.mono ?_; rintro e w5 ⟨vr, rfl, ho5, hb5⟩; obtain ⟨va5, vc5, rfl⟩ := Row.form2 (Row.of_owns ho5); have hB5 := HBC.out.trans (hb5.mono HBC.out.size); obtain ⟨⟨⟨f0, f1⟩, f2, f3⟩, f4⟩ := FAC.out _ hB5; obtain ⟨aa, acc, wa, hra, hoa, hba⟩ := app_cl (ownsRow_below HOC.out hb5) (Row.of_owns ho5) (by rw [List.length_replicate]; omega) hB5.size; obtain ⟨⟨⟨f5, f6⟩, f7, f8⟩, f9⟩ := FAC.out _ (hB5.trans hba); rw [← HN.out] at hra hoa; rw [List.length_replicate] at hra; generalize Value.slice aa _ acc = va at hra hoa; have HO5 := Lib.hid hoa; have HB5 := Lib.hid (hB5.trans hba); have HRA5 := Lib.hid hra; clear ho5 hb5 hB5 hoa hba hra)
                    | ((refine step_append_run (by rfl) _ _ _ (by rfl) (by rfl) (by rfl) HRA5.out ?_)))
                have HLL := Lib.hid (show (lineL (p.take (i + 1)) c).length ≤ 16 * (i + 1) by rw [HN.out, List.length_append, List.length_replicate]; omega)
                clear e0 e1 e2 e3 c0 f0 f1 f2 f3 f4 f5 f6 f7 f8 f9
                go_wp2_with fail
                refine ⟨⟨i + 1, _, ca2, cc2, M - 1, rfl, rfl, by omega, by go_num, by rw [HGN.out, HM.out]; omega, hct2, ?_, HLL.out, HO5.out, HB5.out⟩, by simp [intOf] <;> omega⟩
                rw [HGN.out]
                exact HRT.out
            · obtain rfl : i = p.length := by omega
              rw [List.take_length] at HO
              have i3 : ¬ (p.length : Int) < (p.length : Int) := by omega
              go_wp2_with fail
              go_ret2
              exact ⟨_, by rw [HE.out]; rfl, by rw [HV.out]; exact ownsRow_base HO.out (by omega), HBW.out⟩
    · have HE := Lib.hid (lineE_len (c := c) h0 h1)
      have HV := Lib.hid (lineV_bad (lineE_len (c := c) h0 h1) (by decide))
      have t1 : (((gapsV p).length : Int) != (c.length : Int)) = true := bne_iff_ne.2 (by omega)
      rw [HE.out, HV.out]
      clear h hc h0 h1 hok
      go_enter Try.func27, Try.ntmps27
      go_wp2_with fail
      with_reducible refine KC.out.mono ?_
      rintro e w1 ⟨rfl, hb1⟩
      have HB1 := Lib.hid hb1
      have KG1 := Lib.hid (KG.out w1 hb1)
      clear hb1 KG
      go_wp2_with fail
      with_reducible refine KG1.out.mono ?_
      rintro e w2 ⟨gv, rfl, ho, hb2⟩
      have HB2 := Lib.hid (next HB1.out hb2)
      obtain ⟨ga, gc, rfl⟩ := Row.form2 (Row.of_owns ho)
      clear hb2 ho KG1
      go_wp2_with fail
      go_ret2
      exact ⟨_, rfl, World.ownsRow_nil _ _ _ _, HB2.out⟩
  · have HE := Lib.hid (lineE_chk (c := c) rfl h0)
    have HV := Lib.hid (lineV_bad (lineE_chk (c := c) rfl h0) h0)
    have t1 : ((checkV p).2 != 0) = true := bne_iff_ne.2 h0
    rw [HE.out, HV.out]
    clear h hc h0
    generalize (checkV p).2 = E at *
    generalize (checkV p).1 = E1 at *
    go_enter Try.func27, Try.ntmps27
    go_wp2_with fail
    with_reducible refine KC.out.mono ?_
    rintro e w1 ⟨rfl, hb1⟩
    have HB1 := Lib.hid hb1
    clear hb1
    go_wp2_with fail
    go_ret2
    exact ⟨_, rfl, World.ownsRow_nil _ _ _ _, HB1.out⟩
end Go.Proofs.Ytpjllppbpnkemaa

/- Lines and Fit of the program. -/
namespace Go.Proofs.Ytpjllppbpnkemaa
open Go.RowKit Go.Sort Go.Shelf

def linesV (p : List El) : List (List CSet) := (chosL p).map (lineL p)
theorem chosL_bad {p : List El} (h : posE p ≠ 0) : chosL p = [] := if_neg h
theorem lexN_rng {g : List El} {c : List Int} (h : c ∈ lexN g []) : g.length = c.length ∧ rngOk g c = true := by
  obtain ⟨s, h1, h2, h3⟩ := lexN_mem h
  rw [List.nil_append] at h1
  subst h1
  refine ⟨h2.symm, rngOk_of fun i q1 q2 => ?_⟩
  have := h3 i q1 q2
  simp only [inR, Bool.and_eq_true, decide_eq_true_eq]
  exact this
theorem sortL_mem {l : List (List Int)} {c : List Int} (h : c ∈ sortL l) : c ∈ l := by
  unfold sortL at h
  obtain ⟨i, hi, rfl⟩ := List.mem_map.1 h
  have := ordN_lt hi
  rw [List.getD_eq_getElem?_getD, List.getElem?_eq_getElem this]
  exact List.getElem_mem _
theorem chosL_line {p : List El} {c : List Int} (h : c ∈ chosL p) : lineE p c = 0 := by
  unfold chosL at h
  by_cases h0 : posE p = 0
  · rw [if_pos h0] at h
    obtain ⟨h1, h2⟩ := lexN_rng (sortL_mem h)
    have hce := (posE_ok h0).1
    exact lineE_ok (by rw [(cntE_ok hce).1.check]) h1 h2
  · rw [if_neg h0] at h
    cases h
/-- lines, each in a block of classes -/
def LElems (W : World) (B : Nat) (vs : List Value) (L : List (List CSet)) : Prop := vs.length = L.length ∧ ∀ i (h : i < L.length) (h' : i < vs.length), W.ownsRow B 61 4 vs[i] L[i].length (ccells L[i])
theorem owns_keepS {A C : World} {base : Nat} {v : Value} {n s : Nat} {e : TypeId} {xs : List Value} (h : A.ownsRow base e s v n xs) (hk : ∀ (g : Nat) (cs : Array Value), A.heap[g]? = some (.cells cs e) → C.heap[g]? = some (.cells cs e)) : C.ownsRow base e s v n xs := by
  obtain ⟨h1, h2⟩ := h
  refine ⟨h1, ?_⟩
  rcases h2 with h2 | ⟨g, cap, cur, hv, hb, hg, r⟩
  · exact .inl h2
  · exact .inr ⟨g, cap, cur, hv, hb, hk g cur hg, r⟩
theorem LElems.keep {A C : World} {B : Nat} {vs : List Value} {L : List (List CSet)} (h : LElems A B vs L) (hk : ∀ (g : Nat) (cs : Array Value), A.heap[g]? = some (.cells cs 61) → C.heap[g]? = some (.cells cs 61)) : LElems C B vs L :=
  ⟨h.1, fun i hi hi' => owns_keepS (h.2 i hi hi') hk⟩
theorem LElems.below {A C : World} {B : Nat} {vs : List Value} {L : List (List CSet)} (h : LElems A B vs L) (hb : Below A.heap.size A C) : LElems C B vs L :=
  h.keep fun g _ hg => (hb.block g (Array.getElem?_eq_some_iff.1 hg).1).trans hg
theorem LElems.snoc {W : World} {B : Nat} {vs : List Value} {L : List (List CSet)} (h : LElems W B vs L) {v : Value} {c : List CSet} (hv : W.ownsRow B 61 4 v c.length (ccells c)) : LElems W B (vs ++ [v]) (L ++ [c]) := by
  refine ⟨by simp [h.1], fun i hi hi' => ?_⟩
  by_cases e : i < L.length
  · rw [List.getElem_append_left (by rw [h.1]; exact e), List.getElem_append_left e]
    exact h.2 i e _
  · have e2 : i = L.length := by simp at hi; omega
    subst e2
    simp only [List.getElem_append_right (Nat.le_refl _), Nat.sub_self]
    have e3 := h.1
    rw [List.getElem_append_right (by omega)]
    simp only [e3, Nat.sub_self, List.getElem_cons_zero]
    exact hv
def LLs (W : World) (base : Nat) (v : Value) (L : List (List CSet)) : Prop := ∃ vs, W.ownsRow base 31 1 v L.length vs ∧ LElems W base vs L
theorem LLs.lines {W : World} {base : Nat} {v : Value} {L : List (List CSet)} (h : LLs W base v L) : Lines W v L := by
  obtain ⟨vs, h1, h2, h3⟩ := h
  exact ⟨vs, Row.of_owns h1, fun i hi => ⟨vs[i]'(by omega), List.getElem?_eq_getElem _, Row.of_owns (h3 i hi (by omega))⟩⟩
theorem infoLL : (Try.prog.info? 31).map (fun i => (i.zero, i.size, i.bytes)) = some (some (.slice none 0 0), 1, 24) := by kernel_rfl
theorem app_line {w : World} {base : Nat} {ow : Value} {vs : List Value} {L : List (List CSet)} {c : List CSet} {la : Option Addr} {lc : Nat} (hown : w.ownsRow base 31 1 ow L.length vs) (hel : LElems w base vs L) (hl : w.ownsRow base 61 4 (.slice la c.length lc) c.length (ccells c)) (hn : L.length ≤ 100000) (hbase : base ≤ w.heap.size) :
    ∃ a cap w', (Builtin.append_ #[26, 26] 26 #[ow, .slice (some ⟨w.heap.size, 0, none⟩) 1 1]).run Try.prog (w.alloc (.cells #[.slice la c.length lc] 31)) = .ok (.slice a (L ++ [c]).length cap) w' ∧ LLs w' base (.slice a (L ++ [c]).length cap) (L ++ [c]) ∧ Below base w w' := by
  obtain ⟨j0, hj, hy0, hy1, hy2⟩ := info_parts infoLL
  have hr := Row.lit w 31 1 1 [.slice la c.length lc] (by simp) (by unfold maxLen; omega)
  have ho := hown.alloc (.cells #[.slice la c.length lc] 31)
  obtain ⟨v', w', h1, h2, h3⟩ := append_row (P := Try.prog) base 26 26 31 Try.underlying26 hj hy0 hy1 hy2 rfl (by decide) ho hr (by simp [Value.oneCell']) (by unfold maxLen; omega) (by omega) (by simp; omega)
  rw [show L.length + 1 = (L ++ [c]).length by simp] at h2
  obtain ⟨a, cap, rfl⟩ := Row.form2 (Row.of_owns h2)
  refine ⟨a, cap, w', h1, ⟨_, h2, ?_⟩, ((Below.refl base w).alloc hbase _).grown h3 (by simp; omega) (fun q e => (ho.lt q e).1)⟩
  have hk : ∀ (g : Nat) (cs : Array Value), w.heap[g]? = some (.cells cs 61) → w'.heap[g]? = some (.cells cs 61) := fun g cs hg =>
    grown_keep ho h3 ((heap_alloc_old _ _ (Array.getElem?_eq_some_iff.1 hg).1).trans hg) (by decide)
  exact (hel.snoc hl).keep hk
theorem own_form {w : World} {base s n : Nat} {e : TypeId} {v : Value} {xs : List Value} (h : w.ownsRow base e s v n xs) : ∃ a cap, v = .slice a n cap ∧ n ≤ cap := by
  rcases h.2 with ⟨rfl, rfl⟩ | ⟨g, cap, cur, rfl, _, _, h1, _⟩
  · exact ⟨_, _, rfl, Nat.le_refl _⟩
  · exact ⟨_, _, rfl, h1⟩
def LinesP (p : List El) (w : World) (e : Ending) (w' : World) : Prop := ∃ v, e = .returned (.tuple #[v, .int .i64 (posE p)]) ∧ LLs w' w.heap.size v (linesV p) ∧ Below w.heap.size w w'
theorem lls_nil (w : World) (a : Nat) : LLs w a (.slice none 0 0) [] := ⟨[], World.ownsRow_nil _ _ _ _, rfl, fun i h => absurd h (by simp)⟩
theorem Lists.atL {w : World} {base B : Nat} {a : Option Addr} {n cap : Nat} {l : List (List Int)} (h : Lists w base B (.slice a n cap) l) {i : Nat} (hi : i < l.length) (hn : n = l.length) :
    ∃ g o ua uc, a = some ⟨g, o, none⟩ ∧ g < w.heap.size ∧ w.cell? ⟨g, o + i, none⟩ = some (.slice ua l[i].length uc) ∧ l[i].length ≤ uc ∧ Nums w (.slice ua l[i].length uc) l[i] ∧ w.ownsRow B 3 1 (.slice ua l[i].length uc) l[i].length (icell l[i]) := by
  subst hn
  obtain ⟨vs, h1, h2, h3⟩ := h
  obtain ⟨g, o, cp, e, hg, hc⟩ := Row.cellAt2 (Row.of_owns h1) hi (by omega)
  cases e
  have hiv : i < vs.length := by omega
  have := hc 0 (by omega)
  rw [Nat.mul_one, Nat.add_zero, Nat.add_zero, List.getElem?_eq_getElem hiv] at this
  have ho := h3 i hi hiv
  obtain ⟨ua, uc, e, hcap⟩ := own_form ho
  rw [e] at this ho
  exact ⟨g, o, ua, uc, rfl, hg, this, hcap, Row.of_owns ho, ho⟩
theorem Lists.below {w w' : World} {base B : Nat} {v : Value} {l : List (List Int)} (h : Lists w base B v l) (hb : Below w.heap.size w w') : Lists w' base B v l := by
  obtain ⟨vs, h1, h2⟩ := h
  exact ⟨vs, ownsRow_below h1 hb, h2.below hb⟩
theorem Lists.form {w : World} {base B : Nat} {v : Value} {l : List (List Int)} (h : Lists w base B v l) : ∃ a cap, v = .slice a l.length cap := by
  obtain ⟨vs, h1, _⟩ := h
  obtain ⟨a, cap, e, _⟩ := own_form h1
  exact ⟨a, cap, e⟩
theorem chos_len {p : List El} : (chosL p).length ≤ 64 := by
  unfold chosL
  by_cases h0 : posE p = 0
  · rw [if_pos h0, sortL_len]
    obtain ⟨hok, hcnt⟩ := cntE_ok (posE_ok h0).1
    rw [← lexN_count hok.gaps] at hcnt
    omega
  · rw [if_neg h0]; simp
set_option maxRecDepth 100000 in
set_option maxHeartbeats 4000000 in
theorem lines_p (v : Value) (p : List El) (w : World) (h : Pats w v p) : Calls Try.prog 12 #[v] w (LinesP p w) := by
  have KC := Lib.hid (choices_p v p w h)
  have HP := Lib.hid h
  obtain ⟨a, cap, rfl⟩ := Row.form2 h
  unfold ChoP at KC
  unfold LinesP
  clear h
  by_cases h0 : posE p = 0
  · have HE := Lib.hid h0
    rw [h0] at KC
    have HC := Lib.hid (fun c (hc : c ∈ chosL p) => chosL_line hc)
    have hcl := @chos_len p
    have HV := Lib.hid (show linesV p = (chosL p).map (lineL p) from rfl)
    clear h0
    generalize chosL p = l at *
    go_enter Try.func12, Try.ntmps12
    go_wp2_with fail
    with_reducible refine KC.out.mono ?_
    rintro e w1 ⟨cv, rfl, hl, hb1⟩
    have HB1 := Lib.hid hb1
    have HL := Lib.hid hl
    obtain ⟨ca, cc, rfl⟩ := hl.form
    have hs1 := hb1.size
    clear hb1 hl
    go_wp2_with fail
    go_loopw [6, 21] (fun ov iv wr => ∃ (i : Nat) (ow : Value), ow = ov ∧ i ≤ l.length ∧ iv = .int .i64 (i : Nat) ∧ LLs wr w1.heap.size ow ((l.map (lineL p)).take i) ∧ Below w1.heap.size w1 wr) (fun _ iv _ => l.length - (intOf iv).toNat)
    case atStart => exact ⟨0, _, rfl, by omega, rfl, lls_nil _ _, Below.refl _ _⟩
    case round =>
      obtain ⟨i, ow, rfl, hi, rfl, hown, hB⟩ := hrel
      have HB := Lib.hid hB
      have HO := Lib.hid hown
      have HBW := Lib.hid (next HB1.out hB)
      clear hown hB
      by_cases hlt : i < l.length
      · obtain ⟨g, o, ua, uc, hga, hg, hcell, hcap, hnum, hown⟩ := (HL.out.below HB.out).atL hlt rfl
        subst hga
        have i1 : (0 : Int) ≤ (i : Int) := by omega
        have i2 : (i : Int) < (l.length : Int) := by omega
        have wi1 : IntKind.i64.wrap ((i : Int) + 1) = (i : Int) + 1 := IntWalk.i64_in _ (by omega)
        have hE := HC.out l[i] (List.getElem_mem _)
        have KL := Lib.hid (line_p (.slice a p.length cap) ua uc p l[i] wr (Row.below HP.out HBW.out) hnum hcap)
        unfold LineP at KL
        rw [hE, lineV_ok hE] at KL
        have HTK := Lib.hid (show (l.map (lineL p)).take (i + 1) = (l.map (lineL p)).take i ++ [lineL p l[i]] by rw [List.take_succ_eq_append_getElem (by simpa using hlt), List.getElem_map])
        clear hE hnum hown hcap
        go_wp2_with fail
        with_reducible refine KL.out.mono ?_
        rintro e w3 ⟨lv, rfl, ho3, hb3⟩
        obtain ⟨vs, hv1, hv2⟩ := HO.out
        obtain ⟨la, lc, rfl, _⟩ := own_form ho3
        have HB3 := Lib.hid (HB.out.trans (hb3.mono HB.out.size))
        obtain ⟨oa, oc, w4, hra, hla, hb4⟩ := app_line (ownsRow_below hv1 hb3) (hv2.below hb3) (ownsRow_base ho3 HB.out.size) (by rw [List.length_take]; omega) HB3.out.size
        rw [← HTK.out] at hra hla
        generalize Value.slice oa _ oc = va at hra hla
        have HRA := Lib.hid hra
        have HLA := Lib.hid hla
        have HB4 := Lib.hid (HB3.out.trans hb4)
        clear ho3 hb3 hra hla hb4 hv1 hv2 KL
        go_wp2_with (at_builtin; refine wpList_append_run rfl rfl rfl rfl HRA.out ?_)
        exact ⟨⟨i + 1, _, rfl, by omega, by go_num, HLA.out, HB4.out⟩, by simp [intOf] <;> omega⟩
      · obtain rfl : i = l.length := by omega
        rw [List.take_of_length_le (by simp)] at HO
        have i2 : ¬ (l.length : Int) < (l.length : Int) := by omega
        go_wp2_with fail
        go_ret2
        refine ⟨_, by rw [HE.out]; rfl, ?_, HBW.out⟩
        rw [HV.out]
        obtain ⟨vs, q1, q2, q3⟩ := HO.out
        exact ⟨vs, ownsRow_base q1 hs1, q2, fun j x y => ownsRow_base (q3 j x y) hs1⟩
  · have hc : linesV p = [] := by unfold linesV; rw [chosL_bad h0]; rfl
    have t1 : (posE p != 0) = true := bne_iff_ne.2 h0
    rw [hc]
    generalize posE p = E at *
    generalize chosL p = l at *
    clear h0 hc
    go_enter Try.func12, Try.ntmps12
    go_wp2_with fail
    with_reducible refine KC.out.mono ?_
    rintro e w1 ⟨cv, rfl, hl, hb1⟩
    have HB1 := Lib.hid hb1
    obtain ⟨ca, cc, rfl⟩ := hl.form
    clear hb1 hl
    go_wp2_with fail
    go_ret2
    exact ⟨_, rfl, lls_nil _ _, HB1.out⟩
end Go.Proofs.Ytpjllppbpnkemaa

/- Fit of the program. -/
namespace Go.Proofs.Ytpjllppbpnkemaa
open Go.RowKit Go.Sort

/-- the first of the numbers from i on, n of them, at which an error stands -/
def firstN (e : Nat → Int) : Nat → Nat → Int × Int
  | _, 0 => (0, 0)
  | i, n + 1 => if e i ≠ 0 then ((i : Int), e i) else firstN e (i + 1) n
theorem firstN_step {e : Nat → Int} {i n : Nat} (h : e i = 0) : firstN e i (n + 1) = firstN e (i + 1) n := by
  show (if e i ≠ 0 then _ else _) = _
  rw [if_neg (by rw [h]; simp)]
theorem firstN_hit {e : Nat → Int} {i n : Nat} (h : e i ≠ 0) : firstN e i (n + 1) = ((i : Int), e i) := by
  show (if e i ≠ 0 then _ else _) = _
  rw [if_pos h]
theorem firstN_zero {e : Nat → Int} : ∀ n i, (firstN e i n).2 = 0 → ∀ j, i ≤ j → j < i + n → e j = 0
  | 0, i, _, j, h1, h2 => by omega
  | n + 1, i, h, j, h1, h2 => by
    by_cases h0 : e i = 0
    · rw [firstN_step h0] at h
      by_cases hj : j = i
      · subst hj; exact h0
      · exact firstN_zero n (i + 1) h j (by omega) (by omega)
    · rw [firstN_hit h0] at h
      exact absurd h h0
theorem firstN_none {e : Nat → Int} : ∀ n i, (∀ j, i ≤ j → j < i + n → e j = 0) → firstN e i n = (0, 0)
  | 0, _, _ => rfl
  | n + 1, i, h => by
    rw [firstN_step (h i (by omega) (by omega))]
    exact firstN_none n (i + 1) fun j h1 h2 => h j (by omega) (by omega)
/-- sets of patterns -/
def Sets (w : World) (v : Value) (L : List (List El)) : Prop := ∃ vs : List Value, vs.length = L.length ∧ Row w 1 v L.length vs ∧ ∀ (i : Nat) (h : i < L.length) (h' : i < vs.length), Pats w vs[i] L[i]
theorem Sets.below {w w' : World} {v : Value} {L : List (List El)} (h : Sets w v L) (hb : Below w.heap.size w w') : Sets w' v L := by
  obtain ⟨vs, h1, h2, h3⟩ := h
  exact ⟨vs, h1, Row.below h2 hb, fun i hi hi' => Row.below (h3 i hi hi') hb⟩
theorem Sets.form {w : World} {v : Value} {L : List (List El)} (h : Sets w v L) : ∃ a cap, v = .slice a L.length cap := by
  obtain ⟨vs, _, h2, _⟩ := h
  exact Row.form2 h2
theorem Sets.le {w : World} {v : Value} {L : List (List El)} (h : Sets w v L) : L.length ≤ maxLen := by
  obtain ⟨vs, _, h2, _⟩ := h
  exact h2.2.1
theorem Sets.at {w : World} {a : Option Addr} {n cap : Nat} {L : List (List El)} (h : Sets w (.slice a n cap) L) {i : Nat} (hi : i < L.length) : ∃ g o pa pc, a = some ⟨g, o, none⟩ ∧ g < w.heap.size ∧ w.cell? ⟨g, o + i, none⟩ = some (.slice pa L[i].length pc) ∧ Pats w (.slice pa L[i].length pc) L[i] := by
  obtain ⟨vs, h1, h2, h3⟩ := h
  obtain ⟨g, o, cp, e, hg, hc⟩ := Row.cellAt2 h2 hi (by omega)
  cases e
  have h0 := hc 0 (by omega)
  simp only [Nat.mul_one, Nat.add_zero] at h0
  have hi' : i < vs.length := by omega
  rw [List.getElem?_eq_getElem hi'] at h0
  have hp := h3 i hi hi'
  obtain ⟨pa, pc, hv⟩ := Row.form2 hp
  rw [hv] at h0 hp
  exact ⟨g, o, pa, pc, rfl, hg, h0, hp⟩

def posI (L : List (List El)) (i : Nat) : Int := match L[i]? with | some p => posE p | none => 0
theorem posI_at {L : List (List El)} {i : Nat} (h : i < L.length) : posI L i = posE L[i] := by unfold posI; rw [List.getElem?_eq_getElem h]
def psum (L : List (List El)) : Int := (L.map posV).sum
def fitV (L : List (List El)) : Int × Int := if (firstN (posI L) 0 L.length).2 ≠ 0 then firstN (posI L) 0 L.length else if 16 < L.length ∨ 256 < psum L then ((L.length : Int), 3) else (0, 0)
theorem posV_in (p : List El) : 0 ≤ posV p ∧ posV p ≤ 256 := by
  unfold posV
  by_cases h : posE p = 0
  · rw [if_pos h]
    obtain ⟨h1, h2⟩ := posE_ok h
    obtain ⟨hok, _⟩ := cntE_ok h1
    exact ⟨(sumTo_in (ownOf_in hok) (fun c hc => (lexN_small hok.gaps hc).1)).1, h2⟩
  · rw [if_neg h]; omega
theorem psum_step {L : List (List El)} {i : Nat} (h : i < L.length) : psum (L.take (i + 1)) = psum (L.take i) + posV L[i] := by
  unfold psum
  rw [List.take_succ_eq_append_getElem h, List.map_append, List.sum_append]
  simp
theorem psum_in (L : List (List El)) : ∀ i, 0 ≤ psum (L.take i) ∧ psum (L.take i) ≤ 256 * (i : Int)
  | 0 => by simp [psum]
  | i + 1 => by
    have ih := psum_in L i
    by_cases h : i < L.length
    · have h1 := posV_in L[i]
      rw [psum_step h]
      omega
    · rw [List.take_of_length_le (by omega)]
      rw [List.take_of_length_le (by omega)] at ih
      omega
def FitP (L : List (List El)) (w : World) (e : Ending) (w' : World) : Prop := e = .returned (.tuple #[.int .i64 (fitV L).1, .int .i64 (fitV L).2]) ∧ Below w.heap.size w w'
set_option maxRecDepth 100000 in
set_option maxHeartbeats 8000000 in
theorem fit_p (v : Value) (L : List (List El)) (w : World) (h : Sets w v L) (hL : L.length ≤ 1000) : Calls Try.prog 30 #[v] w (FitP L w) := by
  have HP := Lib.hid h
  obtain ⟨a, cap, rfl⟩ := h.form
  clear h
  unfold FitP
  have HV := Lib.hid (show fitV L = if (firstN (posI L) 0 L.length).2 ≠ 0 then firstN (posI L) 0 L.length else if 16 < L.length ∨ 256 < psum L then ((L.length : Int), 3) else (0, 0) from rfl)
  generalize fitV L = V at *
  go_enter Try.func30, Try.ntmps30
  go_wp2_with fail
  go_loopw [4, 11] (fun nv iv wr => ∃ i : Nat, i ≤ L.length ∧ iv = .int .i64 (i : Nat) ∧ nv = .int .i64 (psum (L.take i)) ∧ firstN (posI L) 0 L.length = firstN (posI L) i (L.length - i) ∧ Below w.heap.size w wr) (fun _ iv _ => L.length - (intOf iv).toNat)
  case atStart => exact ⟨0, by omega, rfl, by simp [psum], rfl, Below.refl _ _⟩
  case round =>
    obtain ⟨i, hi, rfl, rfl, hf, hB⟩ := hrel
    have HF := Lib.hid hf
    have HB := Lib.hid hB
    clear hf hB
    by_cases hlt : i < L.length
    · obtain ⟨g, o, pa, pc, hga, hg, d0, hp⟩ := (HP.out.below HB.out).at hlt
      subst hga
      have i1 : (0 : Int) ≤ (i : Int) := by omega
      have i2 : (i : Int) < (L.length : Int) := by omega
      have wi1 : IntKind.i64.wrap ((i : Int) + 1) = (i : Int) + 1 := IntWalk.i64_in _ (by omega)
      have K := Lib.hid (positions_p _ _ wr hp)
      unfold PosP at K
      have HE := Lib.hid (posI_at hlt)
      have HS := Lib.hid (psum_step hlt)
      by_cases hz : posE L[i] = 0
      · have ON := Lib.hid (show firstN (posI L) 0 L.length = firstN (posI L) (i + 1) (L.length - (i + 1)) by rw [HF.out, show L.length - i = L.length - (i + 1) + 1 by omega, firstN_step (by rw [HE.out]; exact hz)])
        rw [hz] at K
        have b1 := psum_in L i
        have b2 := posV_in L[i]
        have ws : IntKind.i64.wrap (psum (L.take i) + posV L[i]) = psum (L.take i) + posV L[i] := IntWalk.i64_in _ (by omega)
        clear hz hp b1 b2
        go_wp2_with fail
        with_reducible refine K.out.mono ?_
        rintro e w1 ⟨rfl, hb1⟩
        have HB1 := Lib.hid (next HB.out hb1)
        clear hb1
        go_wp2_with fail
        exact ⟨⟨i + 1, by omega, by go_num, by rw [HS.out], ON.out, HB1.out⟩, by simp [intOf] <;> omega⟩
      · have HH := Lib.hid (show V = ((i : Int), posE L[i]) by
          have e1 : firstN (posI L) 0 L.length = ((i : Int), posE L[i]) := by rw [HF.out, show L.length - i = L.length - i - 1 + 1 by omega, firstN_hit (by rw [HE.out]; exact hz), HE.out]
          rw [HV.out, if_pos (by rw [e1]; exact hz), e1])
        have t1 : (posE L[i] != 0) = true := bne_iff_ne.2 hz
        clear hz hp HE
        generalize posE L[i] = E at *
        go_wp2_with fail
        with_reducible refine K.out.mono ?_
        rintro e w1 ⟨rfl, hb1⟩
        have HB1 := Lib.hid (next HB.out hb1)
        clear hb1
        go_wp2_with fail
        go_ret2
        exact ⟨by rw [HH.out]; rfl, HB1.out⟩
    · obtain rfl : i = L.length := by omega
      have i2 : ¬ (L.length : Int) < (L.length : Int) := by omega
      have HS := Lib.hid (show psum (L.take L.length) = psum L by rw [List.take_length])
      rw [HS.out]
      have hf0 : ¬ (firstN (posI L) 0 L.length).2 ≠ 0 := by rw [HF.out, Nat.sub_self]; simp [firstN]
      have HV2 := HV.out
      rw [if_neg hf0] at HV2
      have HV2 := Lib.hid HV2
      clear hf0
      by_cases q1 : (16 : Int) < (L.length : Int)
      · have HV3 := Lib.hid (show V = ((L.length : Int), 3) by rw [HV2.out, if_pos (.inl (by omega))])
        go_wp2_with fail
        go_ret2
        exact ⟨by first | rfl | (rw [HV3.out]; rfl), HB.out⟩
      · have q1d : decide ((16 : Int) < (L.length : Int)) = false := decide_eq_false q1
        by_cases q2 : 256 < psum L
        · have HV3 := Lib.hid (show V = ((L.length : Int), 3) by rw [HV2.out, if_pos (.inr q2)])
          go_wp2_with fail
          go_ret2
          exact ⟨by first | rfl | (rw [HV3.out]; rfl), HB.out⟩
        · have HV3 := Lib.hid (show V = (0, 0) by rw [HV2.out, if_neg (by omega)])
          go_wp2_with fail
          go_ret2
          exact ⟨by first | rfl | (rw [HV3.out]; rfl), HB.out⟩
end Go.Proofs.Ytpjllppbpnkemaa

/- The elements of the examples. -/
namespace Go.Proofs.Ytpjllppbpnkemaa
open Go.RowKit Go.Sort

theorem free_inS {w : World} {b i : Nat} {t : TypeId} {cs : Array Value} (h : w.heap[b]? = some (.cells cs t)) : w.frozen? ⟨b, i, none⟩ = false := by
  unfold World.frozen?; rw [h]; simp
/-- block B holds an element -/
def ElAt (w : World) (B : Nat) (x : El) : Prop := w.heap[B]? = some (.cells (pcell x).toArray 64)
theorem ElAt.lt {w : World} {B : Nat} {x : El} (h : ElAt w B x) : B < w.heap.size := (Array.getElem?_eq_some_iff.1 h).1
theorem ElAt.cells {w : World} {B : Nat} {x : El} (h : ElAt w B x) :
    w.cell? ⟨B, 0, none⟩ = some (.bool x.gap) ∧ w.cell? ⟨B, 1, none⟩ = some (.int .u64 (word x.cls 0 : Int)) ∧ w.cell? ⟨B, 2, none⟩ = some (.int .u64 (word x.cls 1 : Int)) ∧ w.cell? ⟨B, 3, none⟩ = some (.int .u64 (word x.cls 2 : Int)) ∧ w.cell? ⟨B, 4, none⟩ = some (.int .u64 (word x.cls 3 : Int)) ∧ w.cell? ⟨B, 5, none⟩ = some (.int .i64 x.low) ∧ w.cell? ⟨B, 6, none⟩ = some (.int .i64 x.high) :=
  ⟨cell_in h rfl, cell_in h rfl, cell_in h rfl, cell_in h rfl, cell_in h rfl, cell_in h rfl, cell_in h rfl⟩
theorem ElAt.free {w : World} {B : Nat} {x : El} (h : ElAt w B x) (i : Nat) : w.frozen? ⟨B, i, none⟩ = false := free_inS h
theorem ElAt.below {w w' : World} {B N : Nat} {x : El} (h : ElAt w B x) (hb : Below N w w') (hN : B < N) : ElAt w' B x := (hb.block B hN).trans h
theorem ElAt.alloc {w : World} {B : Nat} {x : El} (h : ElAt w B x) (o : Obj) : ElAt (w.alloc o) B x := (Below.heap_alloc w o B h.lt).trans h
def zeroEl : El := ⟨false, 0#256, 0, 0⟩
abbrev zcell : Array Value := #[.bool false, .int .u64 0, .int .u64 0, .int .u64 0, .int .u64 0, .int .i64 0, .int .i64 0]
theorem zcell_eq : (pcell zeroEl).toArray = zcell := by
  have h0 : word 0#256 0 = 0 := by decide
  have h1 : word 0#256 1 = 0 := by decide
  have h2 : word 0#256 2 = 0 := by decide
  have h3 : word 0#256 3 = 0 := by decide
  simp [pcell, zeroEl, h0, h1, h2, h3]
theorem ElAt.zero (w : World) : ElAt (w.alloc (.cells zcell 64)) w.heap.size zeroEl := by
  unfold ElAt; rw [zcell_eq]; exact heap_alloc_new w _
def putEl (w : World) (B : Nat) (x : El) : World :=
  ((((((w.setCell ⟨B, 0, none⟩ (.bool x.gap)).setCell ⟨B, 1, none⟩ (.int .u64 (word x.cls 0 : Int))).setCell ⟨B, 2, none⟩ (.int .u64 (word x.cls 1 : Int))).setCell ⟨B, 3, none⟩ (.int .u64 (word x.cls 2 : Int))).setCell ⟨B, 4, none⟩ (.int .u64 (word x.cls 3 : Int))).setCell ⟨B, 5, none⟩ (.int .i64 x.low)).setCell ⟨B, 6, none⟩ (.int .i64 x.high)
theorem ElAt.put {w : World} {B : Nat} {x : El} (h : ElAt w B x) (y : El) : ElAt (putEl w B y) B y := by
  unfold ElAt putEl
  rw [heap_setCell_at _ (heap_setCell_at _ (heap_setCell_at _ (heap_setCell_at _ (heap_setCell_at _ (heap_setCell_at _ (heap_setCell_at _ h))))))]
  rfl
theorem below_putEl {N B : Nat} {a w : World} (h : Below N a w) (hN : N ≤ B) (x : El) : Below N a (putEl w B x) :=
  ((((((h.setCell (p := ⟨B, 0, none⟩) hN _).setCell (p := ⟨B, 1, none⟩) hN _).setCell (p := ⟨B, 2, none⟩) hN _).setCell (p := ⟨B, 3, none⟩) hN _).setCell (p := ⟨B, 4, none⟩) hN _).setCell (p := ⟨B, 5, none⟩) hN _).setCell (p := ⟨B, 6, none⟩) hN _
def elV (x : El) : Value := .agg #[.bool x.gap, .int .u64 (word x.cls 0 : Int), .int .u64 (word x.cls 1 : Int), .int .u64 (word x.cls 2 : Int), .int .u64 (word x.cls 3 : Int), .int .i64 x.low, .int .i64 x.high]
def byteV (b : UInt8) : El := ⟨false, ofL [b], 0, 0⟩
set_option maxRecDepth 100000 in
set_option maxHeartbeats 4000000 in
theorem byte_p (b : UInt8) (w : World) : Calls Try.prog 35 #[.int .u8 (b.toNat : Int)] w fun e w' => e = .returned (elV (byteV b)) ∧ Below w.heap.size w w' := by
  have hr : Row ((w.alloc (.cells zcell 64)).alloc (.cells #[.int .u8 (b.toNat : Int)] 5)) 1 (.slice (some ⟨w.heap.size + 1, 0, none⟩) 1 1) 1 (bcells [b]) := by
    have := Row.lit (w.alloc (.cells zcell 64)) 5 1 1 (bcells [b]) (by simp [bcells]) (by unfold maxLen; omega)
    rw [World.size_alloc] at this
    exact this
  have K := Lib.hid (of_r _ [b] _ hr)
  have hz := (ElAt.zero w).alloc (.cells #[.int .u8 (b.toNat : Int)] 5)
  have HZ := Lib.hid hz
  have hb0 : Below w.heap.size w ((w.alloc (.cells zcell 64)).alloc (.cells #[.int .u8 (b.toNat : Int)] 5)) := ((Below.refl _ _).alloc (Nat.le_refl _) _).alloc (by simp) _
  have HB0 := Lib.hid hb0
  clear hr hz hb0
  go_enter Try.func35, Try.ntmps35
  go_wp2_with fail
  refine K.out.mono ?_
  rintro e w1 ⟨rfl, hb1⟩
  have h1 := HZ.out.below hb1 (by simp; omega)
  obtain ⟨c0, c1, c2, c3, c4, c5, c6⟩ := h1.cells
  have f0 := h1.free 0
  have f1 := h1.free 1
  have f2 := h1.free 2
  have f3 := h1.free 3
  have f4 := h1.free 4
  have f5 := h1.free 5
  have f6 := h1.free 6
  have HB1 := Lib.hid (next HB0.out hb1)
  have H1 := Lib.hid h1
  clear hb1 h1
  unfold setV setC
  go_wp2_with fail
  obtain ⟨q0, q1, q2, q3, q4, q5, q6⟩ := (H1.out.put (byteV b)).cells
  show bodyPost _ _ _ _ _ (putEl w1 w.heap.size (byteV b))
  exact bodyPost_ret (v := elV (byteV b)) (by unfold elV; simp [results, Try.results35, go_sem, q0, q1, q2, q3, q4, q5, q6]) rfl ⟨rfl, below_putEl HB1.out (Nat.le_refl _) _⟩
set_option maxRecDepth 100000 in
set_option maxHeartbeats 4000000 in
theorem gap_p (low high : Int) (w : World) : Calls Try.prog 62 #[.int .i64 low, .int .i64 high] w fun e w' => e = .returned (elV (gapV low high)) ∧ Below w.heap.size w w' := by
  have h1 := ElAt.zero w
  obtain ⟨c0, c1, c2, c3, c4, c5, c6⟩ := h1.cells
  go_enter Try.func62, Try.ntmps62
  go_wp2_with fail
  have hq : ElAt (w.alloc (.cells (gcell low high) 64)) w.heap.size (gapV low high) := by
    unfold ElAt; rw [gcell_eq]; exact heap_alloc_new w _
  obtain ⟨q0, q1, q2, q3, q4, q5, q6⟩ := hq.cells
  exact bodyPost_ret (v := elV (gapV low high)) (by unfold elV; simp [results, Try.results62, go_sem, q0, q1, q2, q3, q4, q5, q6]) rfl ⟨rfl, (Below.refl _ _).alloc (Nat.le_refl _) _⟩
/-- the pattern of the document's example -/
def exV : List El := [byteV 97, gapV 0 1, byteV 98, gapV 1 2, byteV 99]
set_option maxRecDepth 100000 in
set_option maxHeartbeats 4000000 in
theorem example_p (w : World) : Calls Try.prog 34 #[] w fun e w' => ∃ a cap, e = .returned (.slice a 5 cap) ∧ Pats w' (.slice a 5 cap) exV ∧ Below w.heap.size w w' := by
  go_enter Try.func34, Try.ntmps34
  go_wp2_with fail
  refine (byte_p 97 _).mono ?_
  rintro e w1 ⟨rfl, hb1⟩
  have HB1 := Lib.hid hb1
  clear hb1
  unfold elV
  go_wp2_with fail
  refine (gap_p 0 1 _).mono ?_
  rintro e w2 ⟨rfl, hb2⟩
  have HB2 := Lib.hid (next HB1.out hb2)
  clear hb2
  unfold elV
  go_wp2_with fail
  refine (byte_p 98 _).mono ?_
  rintro e w3 ⟨rfl, hb3⟩
  have HB3 := Lib.hid (next HB2.out hb3)
  clear hb3
  unfold elV
  go_wp2_with fail
  refine (gap_p 1 2 _).mono ?_
  rintro e w4 ⟨rfl, hb4⟩
  have HB4 := Lib.hid (next HB3.out hb4)
  clear hb4
  unfold elV
  go_wp2_with fail
  refine (byte_p 99 _).mono ?_
  rintro e w5 ⟨rfl, hb5⟩
  have HB5 := Lib.hid (next HB4.out hb5)
  clear hb5
  have HR := Lib.hid (show Pats (w5.alloc (.cells (pcells exV).toArray 64)) (.slice (some ⟨w5.heap.size, 0, none⟩) 5 5) exV from Row.lit w5 64 7 5 (pcells exV) rfl (by unfold maxLen; omega))
  unfold elV
  go_wp2_with fail
  go_ret
  exact ⟨_, _, rfl, HR.out, next HB5.out ((Below.refl _ _).alloc (Nat.le_refl _) _)⟩
/-- plainly -/
theorem ex_cnt : cntE exV = 0 ∧ cntV exV = 4 := by decide
theorem ex_pos : posE exV = 0 ∧ posV exV = 20 := by decide
theorem ex_lex : lexN (gapsV exV) [] = [[0, 1], [0, 2], [1, 1], [1, 2]] := by decide
theorem ordN_sorted {l : List (List Int)} (h : (List.range l.length).Pairwise fun x y => (!ltR l y x) = true) : ordN l = List.range l.length := List.mergeSort_of_pairwise h
theorem ex_chos : chosL exV = [[0, 1], [0, 2], [1, 1], [1, 2]] := by
  unfold chosL
  rw [if_pos ex_pos.1, ex_lex]
  unfold sortL
  rw [ordN_sorted (by decide)]
  decide
theorem ex_lines : (linesV exV).map List.length = [4, 5, 5, 6] := by
  unfold linesV
  rw [ex_chos]
  decide
def manyV (n : Nat) : List (List El) := List.replicate n [byteV 97]
theorem many_fit : fitV (manyV 17) = (17, 3) := by decide
end Go.Proofs.Ytpjllppbpnkemaa

/- shown: the calls of the example return what the document says. -/
namespace Go.Proofs.Ytpjllppbpnkemaa
open Go.RowKit Go.Sort Go.Shelf

theorem al (W : World) (o : Obj) : Below W.heap.size W (W.alloc o) := (Below.refl _ _).alloc (Nat.le_refl _) _
/-- patterns, each in a block of its own -/
def PElems (W : World) (B : Nat) (vs : List Value) (L : List (List El)) : Prop := vs.length = L.length ∧ ∀ i (h : i < L.length) (h' : i < vs.length), W.ownsRow B 64 7 vs[i] L[i].length (pcells L[i])
theorem PElems.keep {A C : World} {B : Nat} {vs : List Value} {L : List (List El)} (h : PElems A B vs L) (hk : ∀ (g : Nat) (cs : Array Value), A.heap[g]? = some (.cells cs 64) → C.heap[g]? = some (.cells cs 64)) : PElems C B vs L :=
  ⟨h.1, fun i hi hi' => owns_keepS (h.2 i hi hi') hk⟩
theorem PElems.below {A C : World} {B : Nat} {vs : List Value} {L : List (List El)} (h : PElems A B vs L) (hb : Below A.heap.size A C) : PElems C B vs L :=
  h.keep fun g _ hg => (hb.block g (Array.getElem?_eq_some_iff.1 hg).1).trans hg
theorem PElems.snoc {W : World} {B : Nat} {vs : List Value} {L : List (List El)} (h : PElems W B vs L) {v : Value} {c : List El} (hv : W.ownsRow B 64 7 v c.length (pcells c)) : PElems W B (vs ++ [v]) (L ++ [c]) := by
  refine ⟨by simp [h.1], fun i hi hi' => ?_⟩
  by_cases e : i < L.length
  · rw [List.getElem_append_left (by rw [h.1]; exact e), List.getElem_append_left e]
    exact h.2 i e _
  · have e2 : i = L.length := by simp at hi; omega
    subst e2
    simp only [List.getElem_append_right (Nat.le_refl _), Nat.sub_self]
    have e3 := h.1
    rw [List.getElem_append_right (by omega)]
    simp only [e3, Nat.sub_self, List.getElem_cons_zero]
    exact hv
def PLs (W : World) (base : Nat) (v : Value) (L : List (List El)) : Prop := ∃ vs, W.ownsRow base 22 1 v L.length vs ∧ PElems W base vs L
theorem PLs.sets {W : World} {base : Nat} {v : Value} {L : List (List El)} (h : PLs W base v L) : Sets W v L := by
  obtain ⟨vs, h1, h2, h3⟩ := h
  exact ⟨vs, h2, Row.of_owns h1, fun i hi hi' => Row.of_owns (h3 i hi hi')⟩
theorem pls_nil (w : World) (a : Nat) : PLs w a (.slice none 0 0) [] := ⟨[], World.ownsRow_nil _ _ _ _, rfl, fun i h => absurd h (by simp)⟩
theorem PLs.below {A C : World} {B : Nat} {v : Value} {L : List (List El)} (h : PLs A B v L) (hb : Below A.heap.size A C) : PLs C B v L := by
  obtain ⟨vs, h1, h2⟩ := h
  exact ⟨vs, ownsRow_below h1 hb, h2.below hb⟩
theorem infoPL : (Try.prog.info? 22).map (fun i => (i.zero, i.size, i.bytes)) = some (some (.slice none 0 0), 1, 24) := by kernel_rfl
theorem app_pat {w : World} {base : Nat} {ow : Value} {L : List (List El)} {c : List El} {la : Option Addr} {lc : Nat} (h : PLs w base ow L) (hl : w.ownsRow base 64 7 (.slice la c.length lc) c.length (pcells c)) (hn : L.length ≤ 100000) (hbase : base ≤ w.heap.size) :
    ∃ a cap w', (Builtin.append_ #[51, 51] 51 #[ow, .slice (some ⟨w.heap.size, 0, none⟩) 1 1]).run Try.prog (w.alloc (.cells #[.slice la c.length lc] 22)) = .ok (.slice a (L ++ [c]).length cap) w' ∧ PLs w' base (.slice a (L ++ [c]).length cap) (L ++ [c]) ∧ Below base w w' := by
  obtain ⟨vs, hown, hel⟩ := h
  obtain ⟨j0, hj, hy0, hy1, hy2⟩ := info_parts infoPL
  have hr := Row.lit w 22 1 1 [.slice la c.length lc] (by simp) (by unfold maxLen; omega)
  have ho := hown.alloc (.cells #[.slice la c.length lc] 22)
  obtain ⟨v', w', h1, h2, h3⟩ := append_row (P := Try.prog) base 51 51 22 Try.underlying51 hj hy0 hy1 hy2 rfl (by decide) ho hr (by simp [Value.oneCell']) (by unfold maxLen; omega) (by omega) (by simp; omega)
  rw [show L.length + 1 = (L ++ [c]).length by simp] at h2
  obtain ⟨a, cap, rfl⟩ := Row.form2 (Row.of_owns h2)
  refine ⟨a, cap, w', h1, ⟨_, h2, ?_⟩, ((Below.refl base w).alloc hbase _).grown h3 (by simp; omega) (fun q e => (ho.lt q e).1)⟩
  have hk : ∀ (g : Nat) (cs : Array Value), w.heap[g]? = some (.cells cs 64) → w'.heap[g]? = some (.cells cs 64) := fun g cs hg =>
    grown_keep ho h3 ((heap_alloc_old _ _ (Array.getElem?_eq_some_iff.1 hg).1).trans hg) (by decide)
  exact (hel.snoc hl).keep hk
theorem lit_own (w : World) (x : El) : (w.alloc (.cells (pcell x).toArray 64)).ownsRow w.heap.size 64 7 (.slice (some ⟨w.heap.size, 0, none⟩) 1 1) 1 (pcells [x]) := by
  refine ⟨by simp [pcells, pcell], .inr ⟨w.heap.size, 1, _, rfl, Nat.le_refl _, heap_alloc_new w _, Nat.le_refl _, by unfold maxLen; omega, by simp [pcell], by simp [pcells, pcell]⟩⟩
theorem many_step (i : Nat) : manyV (i + 1) = manyV i ++ [[byteV 97]] := List.replicate_succ'
theorem many_len (i : Nat) : (manyV i).length = i := List.length_replicate
theorem ch_facts {W : World} {B1 B2 : Nat} {a : Option Addr} {cc : Nat} {l : List (List Int)} (h : Lists W B1 B2 (.slice a 4 cc) l) (hl : l.length = 4) (h2 : ∀ c ∈ l, c.length = 2) {i : Nat} (hi : i < l.length) :
    ∃ g o gu ou uc, a = some ⟨g, o, none⟩ ∧ g < W.heap.size ∧ gu < W.heap.size ∧ W.cell? ⟨g, o + i, none⟩ = some (.slice (some ⟨gu, ou, none⟩) 2 uc) ∧ (∀ j (hj : j < l[i].length), W.cell? ⟨gu, ou + j, none⟩ = some (.int .i64 l[i][j])) := by
  obtain ⟨g, o, ua, uc, e, hg, hc, _, hn, _⟩ := h.atL hi hl.symm
  have e2 := h2 l[i] (List.getElem_mem _)
  obtain ⟨gu, ou, rfl, hgu, _⟩ := Nums.at' hn (i := 0) (by omega) (by omega)
  rw [e2] at hc
  refine ⟨g, o, gu, ou, uc, e, hg, hgu, hc, fun j hj => ?_⟩
  obtain ⟨gu', ou', e', _, h3⟩ := Nums.at' hn (i := j) hj hj
  cases e'
  exact h3
set_option maxRecDepth 100000 in
set_option maxHeartbeats 20000000 in
theorem shown_p (w : World) : Calls Try.prog 11 #[] w fun e w' => e = .returned (.bool true) ∧ Below w.heap.size w w' := by
  go_enter Try.func11, Try.ntmps11
  go_wp2_with fail
  refine (example_p _).mono ?_
  rintro e w1 ⟨a1, cp1, rfl, hp1, hb1⟩
  have K := Lib.hid (count_p _ _ w1 hp1)
  unfold CntP at K
  rw [ex_cnt.1, ex_cnt.2] at K
  have HB1 := Lib.hid hb1
  clear hp1 hb1
  go_wp2_with fail
  with_reducible refine K.out.mono ?_
  rintro e w2 ⟨rfl, hb2⟩
  have HB2 := Lib.hid (next HB1.out hb2)
  clear hb2 K HB1
  go_wp2_with fail
  refine (example_p _).mono ?_
  rintro e w3 ⟨a3, cp3, rfl, hp3, hb3⟩
  have K := Lib.hid (positions_p _ _ w3 hp3)
  unfold PosP at K
  rw [ex_pos.1, ex_pos.2] at K
  have HB3 := Lib.hid (next HB2.out hb3)
  clear hp3 hb3 HB2
  go_wp2_with fail
  with_reducible refine K.out.mono ?_
  rintro e w4 ⟨rfl, hb4⟩
  have HB4 := Lib.hid (next HB3.out hb4)
  clear hb4 K HB3
  go_wp2_with fail
  refine (example_p _).mono ?_
  rintro e w5 ⟨a5, cp5, rfl, hp5, hb5⟩
  have K := Lib.hid (choices_p _ _ w5 hp5)
  unfold ChoP at K
  rw [ex_pos.1, ex_chos] at K
  have HB5 := Lib.hid (next HB4.out hb5)
  clear hp5 hb5 HB4
  go_wp2_with fail
  with_reducible refine K.out.mono ?_
  rintro e w6 ⟨v6, rfl, hl6, hb6⟩
  have HB6 := Lib.hid (next HB5.out hb6)
  obtain ⟨a6, c6, rfl⟩ : ∃ a cap, v6 = .slice a 4 cap := hl6.form
  have HL := Lib.hid hl6
  clear hl6 hb6 K HB5
  go_wp2_with fail
  refine (example_p _).mono ?_
  rintro e w7 ⟨a7, cp7, rfl, hp7, hb7⟩
  have K := Lib.hid (lines_p _ _ w7 hp7)
  unfold LinesP at K
  rw [ex_pos.1] at K
  have HB7 := Lib.hid (next HB6.out hb7)
  replace HL := Lib.hid (HL.out.below hb7)
  clear hp7 hb7 HB6
  go_wp2_with fail
  with_reducible refine K.out.mono ?_
  rintro e w8 ⟨v8, rfl, hl8, hb8⟩
  have HB8 := Lib.hid (next HB7.out hb8)
  replace HL := Lib.hid (HL.out.below hb8)
  have HLN := Lib.hid hl8.lines
  obtain ⟨a8, c8, rfl⟩ := hl8.lines.form
  have HLL := Lib.hid ex_lines
  generalize linesV exV = LN at *
  have hln : LN.length = 4 := by have := congrArg List.length HLL.out; simpa using this
  rw [hln]
  have HLNL := Lib.hid hln
  clear hl8 hb8 K HB7
  go_wp2_with fail
  go_loopw [9, 10] (fun ov iv wr => ∃ (i : Nat) (ow : Value), ow = ov ∧ i ≤ 17 ∧ iv = .int .i64 (i : Nat) ∧ PLs wr w8.heap.size ow (manyV i) ∧ Below w8.heap.size w8 wr) (fun _ iv _ => 17 - (intOf iv).toNat)
  case atStart => exact ⟨0, _, rfl, by omega, rfl, pls_nil _ _, Below.refl _ _⟩
  case round =>
    obtain ⟨i, ow, rfl, hi, rfl, hp, hB⟩ := hrel
    have HB := Lib.hid hB
    have HP := Lib.hid hp
    clear hp hB
    by_cases hlt : i < 17
    · have i1 : (0 : Int) ≤ (i : Int) := by omega
      have i2 : (i : Int) < 17 := by omega
      have wi1 : IntKind.i64.wrap ((i : Int) + 1) = (i : Int) + 1 := IntWalk.i64_in _ (by omega)
      have KB := byte_p 97 wr
      rw [show ((UInt8.toNat 97 : Nat) : Int) = 97 from rfl] at KB
      have KB := Lib.hid KB
      go_wp2_with fail
      with_reducible refine KB.out.mono ?_
      rintro e w9 ⟨rfl, hb9⟩
      have HB9 := Lib.hid (HB.out.trans (hb9.mono HB.out.size))
      have HBA := Lib.hid (HB9.out.alloc HB9.out.size (.cells (pcell (byteV 97)).toArray 64))
      obtain ⟨oa, oc, w10, hra, hla, hb10⟩ := app_pat (c := [byteV 97]) ((HP.out.below hb9).below (al _ _)) (ownsRow_base (lit_own w9 (byteV 97)) HB9.out.size) (by rw [many_len]; omega) HBA.out.size
      rw [← many_step] at hra hla
      generalize Value.slice oa _ oc = va at hra hla
      rw [World.size_alloc] at hra
      have HRA := Lib.hid hra
      have HLA := Lib.hid hla
      have HB10 := Lib.hid (HBA.out.trans hb10)
      clear hb9 hra hla hb10 KB
      unfold elV
      go_wp2_with (at_builtin; refine wpList_append_run rfl rfl rfl rfl HRA.out ?_)
      exact ⟨⟨i + 1, _, rfl, by omega, by go_num, HLA.out, HB10.out⟩, by simp [intOf] <;> omega⟩
    · obtain rfl : i = 17 := by omega
      have KF := fit_p _ _ _ HP.out.sets (by rw [many_len]; omega)
      unfold FitP at KF
      rw [many_fit] at KF
      have KF := Lib.hid KF
      obtain ⟨ma, mc, rfl⟩ : ∃ a cap, ow = .slice a 17 cap := by
        obtain ⟨vs, h1, _⟩ := HP.out
        obtain ⟨a, cap, e, _⟩ := own_form h1
        exact ⟨a, cap, by rw [e, many_len]⟩
      go_wp2_with fail
      with_reducible refine KF.out.mono ?_
      rintro e w9 ⟨rfl, hb9⟩
      have HB9 := Lib.hid (next (next HB8.out HB.out) hb9)
      replace HL := Lib.hid ((HL.out.below HB.out).below hb9)
      replace HLN := Lib.hid ((HLN.out.below HB.out).below hb9)
      clear hb9 HP HB
      go_wp2_with fail
      have hbw : Below w9.heap.size w9 ((w9.alloc (.cells #[.int .i64 0, .int .i64 1, .int .i64 0, .int .i64 2, .int .i64 1, .int .i64 1, .int .i64 1, .int .i64 2] 67)).alloc (.cells #[.int .i64 4, .int .i64 5, .int .i64 5, .int .i64 6] 68)) := ((Below.refl _ _).alloc (Nat.le_refl _) _).alloc (by simp) _
      have n1 : ((w9.alloc (.cells #[.int .i64 0, .int .i64 1, .int .i64 0, .int .i64 2, .int .i64 1, .int .i64 1, .int .i64 1, .int .i64 2] 67)).alloc (.cells #[.int .i64 4, .int .i64 5, .int .i64 5, .int .i64 6] 68)).heap[w9.heap.size]? = some (.cells #[.int .i64 0, .int .i64 1, .int .i64 0, .int .i64 2, .int .i64 1, .int .i64 1, .int .i64 1, .int .i64 2] 67) := (heap_alloc_old _ _ (by simp)).trans (heap_alloc_new w9 _)
      have n2 : ((w9.alloc (.cells #[.int .i64 0, .int .i64 1, .int .i64 0, .int .i64 2, .int .i64 1, .int .i64 1, .int .i64 1, .int .i64 2] 67)).alloc (.cells #[.int .i64 4, .int .i64 5, .int .i64 5, .int .i64 6] 68)).heap[w9.heap.size + 1]? = some (.cells #[.int .i64 4, .int .i64 5, .int .i64 5, .int .i64 6] 68) := by
        have := heap_alloc_new (w9.alloc (.cells #[.int .i64 0, .int .i64 1, .int .i64 0, .int .i64 2, .int .i64 1, .int .i64 1, .int .i64 1, .int .i64 2] 67)) (.cells #[.int .i64 4, .int .i64 5, .int .i64 5, .int .i64 6] 68)
        rw [World.size_alloc] at this
        exact this
      obtain ⟨W0, hW0⟩ : ∃ W0, ((w9.alloc (.cells #[.int .i64 0, .int .i64 1, .int .i64 0, .int .i64 2, .int .i64 1, .int .i64 1, .int .i64 1, .int .i64 2] 67)).alloc (.cells #[.int .i64 4, .int .i64 5, .int .i64 5, .int .i64 6] 68)) = W0 := ⟨_, rfl⟩
      rw [hW0] at hbw n1 n2 ⊢
      replace HL := Lib.hid (HL.out.below hbw)
      replace HLN := Lib.hid (HLN.out.below hbw)
      have HBW := Lib.hid (next HB9.out hbw)
      clear hbw hW0 HB9
      generalize w9.heap.size = G9 at *
      obtain ⟨ga, oa, _, _, _, rfl, _⟩ := ch_facts HL.out rfl (by decide) (i := 0) (by decide)
      obtain ⟨gl, ol, _, _, rfl, _⟩ := HLN.out.at (i := 0) (by omega)
      have FACTS := Lib.hid (show ∀ i, i < 4 → ∃ (gu ou uc : Nat) (b : Option Addr) (c : Nat) (x y : Int) (n : Nat), W0.cell? ⟨ga, oa + i, none⟩ = some (.slice (some ⟨gu, ou, none⟩) 2 uc) ∧ W0.cell? ⟨gu, ou, none⟩ = some (.int .i64 x) ∧ W0.cell? ⟨gu, ou + 1, none⟩ = some (.int .i64 y) ∧ W0.cell? ⟨gl, ol + i, none⟩ = some (.slice b n c) ∧
          W0.cell? ⟨G9, i * 2, none⟩ = some (.int .i64 x) ∧ W0.cell? ⟨G9, i * 2 + 1, none⟩ = some (.int .i64 y) ∧ W0.cell? ⟨G9 + 1, i, none⟩ = some (.int .i64 (n : Int)) from fun i hi => by
        have hlen : ∀ (h : i < LN.length), some LN[i].length = [4, 5, 5, 6][i]? := fun h => by
          rw [← HLL.out, List.getElem?_map, List.getElem?_eq_getElem h]; rfl
        obtain ⟨gl', ol', b, c, e', _, q4, _⟩ := HLN.out.at (i := i) (by omega)
        cases e'
        obtain ⟨ga', oa', gu, ou, uc, e', _, _, q1, q2⟩ := ch_facts HL.out rfl (by decide) (i := i) (by simpa using hi)
        cases e'
        have hlen := hlen (by omega)
        refine ⟨gu, ou, uc, b, c, [0, 0, 1, 1][i], [1, 2, 1, 2][i], LN[i].length, q1, ?_, ?_, q4, ?_, ?_, ?_⟩
        all_goals (rcases (show i = 0 ∨ i = 1 ∨ i = 2 ∨ i = 3 by omega) with rfl | rfl | rfl | rfl)
        · exact q2 0 (by simp)
        · exact q2 0 (by simp)
        · exact q2 0 (by simp)
        · exact q2 0 (by simp)
        · exact q2 1 (by simp)
        · exact q2 1 (by simp)
        · exact q2 1 (by simp)
        · exact q2 1 (by simp)
        · exact cell_in n1 rfl
        · exact cell_in n1 rfl
        · exact cell_in n1 rfl
        · exact cell_in n1 rfl
        · exact cell_in n1 rfl
        · exact cell_in n1 rfl
        · exact cell_in n1 rfl
        · exact cell_in n1 rfl
        all_goals (simp only [List.getElem?_cons_zero, List.getElem?_cons_succ, Option.some.injEq] at hlen; rw [hlen]; exact cell_in n2 rfl))
      clear HL HLN n1 n2 HLL HLNL
      go_loopw [15] (fun kv wr => ∃ i : Nat, i ≤ 4 ∧ kv = .int .i64 (i : Nat) ∧ Below W0.heap.size W0 wr) (fun kv _ => 4 - (intOf kv).toNat)
      case atStart => exact ⟨0, by omega, rfl, Below.refl _ _⟩
      case round =>
        obtain ⟨i, hi, rfl, hB⟩ := hrel
        by_cases hlt : i < 4
        · obtain ⟨gu, ou, uc, b, c, x, y, n, q1, q2, q3, q4, q5, q6, q7⟩ := FACTS.out i hlt
          have lt0 : ∀ {A : Addr} {v : Value}, W0.cell? A = some v → wr.cell? A = some v := fun h => (hB.cell (block_lt_of_cell h)).trans h
          replace q1 := fun d os => cell_regrown (lt0 q1) d os
          replace q2 := fun d os => cell_regrown (lt0 q2) d os
          replace q3 := fun d os => cell_regrown (lt0 q3) d os
          replace q4 := fun d os => cell_regrown (lt0 q4) d os
          replace q5 := fun d os => cell_regrown (lt0 q5) d os
          replace q6 := fun d os => cell_regrown (lt0 q6) d os
          replace q7 := fun d os => cell_regrown (lt0 q7) d os
          have HB := Lib.hid hB
          have i1 : (0 : Int) ≤ (i : Int) := by omega
          have i2 : (i : Int) < 4 := by omega
          have wi1 : IntKind.i64.wrap ((i : Int) + 1) = (i : Int) + 1 := IntWalk.i64_in _ (by omega)
          clear lt0 hB
          go_wp2_with fail
          refine wp_region_quiet_below (by kernel_rfl) (by kernel_rfl) ?_
          repeat (go_big_quiet_step (fail))
          refine wpQuiet_nil ?_
          intro _ hw'
          obtain ⟨⟨dq, osq⟩, hw''⟩ := hw'
          subst hw''
          have HB2 := Lib.hid (HB.out.trans ((below_regrown _ dq osq).mono HB.out.size))
          clear q1 q2 q3 q4 q5 q6 q7
          go_wp2_with fail
          exact ⟨⟨i + 1, by omega, by go_num, HB2.out⟩, by simp [intOf] <;> omega⟩
        · obtain rfl : i = 4 := by omega
          have HB := Lib.hid hB
          clear hB
          go_wp2_with fail
          go_ret
          exact ⟨rfl, next HBW.out HB.out⟩
end Go.Proofs.Ytpjllppbpnkemaa
