/- ArenaLogs: the trace is exactly the steps that were made since the last Forget, in their order. Printed by tools/gen_ar5.py. -/
import Derived.Test.YtomjefplacgoeaaDoorArCut
import Derived.Test.YtomjefplacgoeaaDoorDLaid
import Derived.Test.YtomjefplacgoeaaDoorTie
import Derived.Test.YtomjefplacgoeaaDoorCards
import Derived.SevenTiedAt
namespace Go.Proofs.YtomjefplacgoeaaDoor.arenaLogs
open Go.ChangeShapes Go.WideShapes Go.ChangeAt Go.RowKit Go.Sort

structure LK (w1 wr : World) (F : List Nat) (A : Nat) (cs : List Nat) (rs : List Reg) (ev : List Ev) (wv : Value) (n k : Nat) : Prop where
  o : Own w1 wr F A cs rs ev
  l : cs.length = n
  e : ev.length ≤ k
  r : RegsOk n rs
  w : wr.ownsRow w1.heap.size 54 2 wv ev.length (ecells ev)
  f : ∀ b ∈ blockOf wv, b ∉ F
theorem owns_lt {w : World} {base : Nat} {e : TypeId} {s n : Nat} {v : Value} {xs : List Value} (h : w.ownsRow base e s v n xs) : ∀ k ∈ blockOf v, base ≤ k ∧ k < w.heap.size := by
  intro k hk
  rcases h.2 with ⟨rfl, _⟩ | ⟨g, cap, cur, rfl, hb, hg, _⟩
  · simp [blockOf, Value.ownBlock] at hk
  · simp [blockOf, Value.ownBlock] at hk
    subst hk
    exact ⟨hb, (Array.getElem?_eq_some_iff.1 hg).1⟩
theorem LK.len {w1 wr F A cs rs ev wv n k} (h : LK w1 wr F A cs rs ev wv n k) : ∃ a cap, wv = .slice a ev.length cap := Row.form2 (Row.of_owns h.w)
theorem LK.go {w1 wr F A cs rs ev wv n k} (h : LK w1 wr F A cs rs ev wv n k) {o : Obj} {F4 : List Nat} {w4 : World} (ht : Turn F (wr.alloc o) F4 w4) :
    w4.heap[wr.heap.size]? = some o ∧ (∀ b ∈ blockOf wv, b ∉ F4) ∧ w4.ownsRow w1.heap.size 54 2 wv ev.length (ecells ev) := by
  have hl := owns_lt h.w
  obtain ⟨_, h4⟩ := ht.apart wr.heap.size (by simp) (fun hm => by have := (h.o.lo _ hm).2; omega)
  refine ⟨h4.trans (heap_alloc_new _ _), fun b hb => (ht.apart b (by have := (hl b hb).2; simp; omega) (h.f b hb)).1, owns_keep h.w (fun b hb => ?_)⟩
  exact (ht.apart b (by have := (hl b hb).2; simp; omega) (h.f b hb)).2.trans (Below.heap_alloc _ _ _ (hl b hb).2)
theorem LK.turn {w1 wr F A cs rs ev wv n k} (h : LK w1 wr F A cs rs ev wv n k) {w4 : World} (ho : Own w1 w4 F A cs rs ev) (ht : Turn F wr F w4) : LK w1 w4 F A cs rs ev wv n k := by
  have hl := owns_lt h.w
  exact ⟨ho, h.l, h.e, h.r, owns_keep h.w (fun b hb => (ht.apart b (hl b hb).2 (h.f b hb)).2), h.f⟩
theorem LK.below {w1 wr F A cs rs ev wv n k} (h : LK w1 wr F A cs rs ev wv n k) {w4 : World} (hb : Below wr.heap.size wr w4) : LK w1 w4 F A cs rs ev wv n k :=
  h.turn (h.o.below hb) (Turn.of_below hb)
theorem LK.next {w1 w4 F A cs rs ev wv n k} (ho : Own w1 w4 F A cs rs ev) (hl : cs.length = n) (he : ev.length ≤ k) (hr : RegsOk n rs) (hw : w4.ownsRow w1.heap.size 54 2 wv ev.length (ecells ev)) (hf : ∀ b ∈ blockOf wv, b ∉ F) : LK w1 w4 F A cs rs ev wv n (k + 1) :=
  ⟨ho, hl, by omega, hr, hw, hf⟩
theorem LK.log {w1 w4 F A cs rs ev wv n k} {e : Ev} (ho : Own w1 w4 F A cs rs (ev ++ [e])) (hl : cs.length = n) (he : ev.length ≤ k) (hr : RegsOk n rs) (hw : w4.ownsRow w1.heap.size 54 2 wv ev.length (ecells ev)) (hf : ∀ b ∈ blockOf wv, b ∉ F)
    {o : Obj} {w9 : World} {g cap : Nat} (hown : w9.ownsRow w1.heap.size 54 2 (.slice (some ⟨g, 0, none⟩) (ev.length + 1) cap) (ev.length + 1) (ecells ev ++ [.int .i32 (e.1 : Int), .int .i32 (e.2 : Int)]))
    (hgrow : (w4.alloc o).grownBy w9 wv.ownBlock) (hat : wv.ownBlock = some g ∨ g = w4.heap.size + 1) : LK w1 w9 F A cs rs (ev ++ [e]) (.slice (some ⟨g, 0, none⟩) (ev.length + 1) cap) n (k + 1) := by
  have hs4 := ho.b.size
  have hs2 : (w4.alloc o).heap.size = w4.heap.size + 1 := by simp
  have hm : ∀ k, wv.ownBlock = some k → k ∈ blockOf wv := fun k e => by simp [blockOf, e]
  refine ⟨ho.aside (fun k hk => ?_) (by have := hgrow.size; omega) ((ho.b.alloc hs4 o).grown hgrow (by omega) (fun k hk => (owns_lt hw k (hm k hk)).1)), hl, by simp; omega, hr, ?_, fun b hb => ?_⟩
  · have hk4 := (ho.lo k hk).2
    rw [hgrow.block k (by omega) (fun e => hf k (hm k e.symm) hk), Below.heap_alloc _ _ _ hk4]
  · rw [ecells_snoc, List.length_append, List.length_singleton]
    exact hown
  · simp [blockOf, Value.ownBlock] at hb
    subst hb
    rcases hat with hg | hg
    · exact hf _ (hm _ hg)
    · intro hin
      have := (ho.lo _ hin).2
      omega
theorem regsOk_regV {n : Nat} {rs : List Reg} {nm : List UInt8} {k : Int} (h : RegsOk n rs) : RegsOk n (regV n rs nm k) := by
  by_cases he : regE n rs nm k = 0
  · rw [(regB_ok he).2]
    obtain ⟨h5, h6⟩ := endR_in h
    unfold regE at he
    by_cases h1 : nameB nm = false
    · rw [if_pos h1] at he; omega
    · rw [if_neg h1] at he
      by_cases h2 : k < 1
      · rw [if_pos h2] at he; omega
      · rw [if_neg h2] at he
        by_cases h3 : 0 ≤ idxR rs nm
        · rw [if_pos h3] at he; omega
        · rw [if_neg h3] at he
          by_cases h4 : rs.length = 64
          · rw [if_pos h4] at he; omega
          · rw [if_neg h4] at he
            by_cases h5 : (n : Int) - endR rs < k
            · rw [if_pos h5] at he; omega
            · intro r hr
              rw [List.mem_append, List.mem_singleton] at hr
              rcases hr with hr | rfl
              · exact h r hr
              · simp only; omega
  · rw [(regB_bad he).2]; exact h
theorem stepE_good {n len : Nat} {a : Int} (h0 : 0 ≤ a) (h1 : a < n) (hl : len ≤ 200) : stepE n len a = 0 := by
  unfold stepE; rw [if_neg (by omega), if_neg (by omega)]
theorem stepE_bad {n len : Nat} {a : Int} (h : a < 0 ∨ (n : Int) ≤ a) : stepE n len a = 7 := by
  unfold stepE; rw [if_pos h]
theorem storeV_len {cs : List Nat} {len : Nat} {a : Int} {v : Nat} : (storeV cs len a v).length = cs.length := by
  unfold storeV; split <;> simp
theorem sinceV_in {ev : List Ev} {j : Nat} (h : j ≤ ev.length) : sinceV ev (j : Int) = ev.drop j ∧ sinceE ev.length (j : Int) = 0 := by
  have e : sinceE ev.length (j : Int) = 0 := by unfold sinceE; rw [if_neg (by omega)]
  unfold sinceV
  rw [e, if_pos rfl, Int.toNat_natCast]
  exact ⟨rfl, rfl⟩
set_option maxRecDepth 100000 in
set_option maxHeartbeats 40000000 in
theorem walkK (c : Nat) (hc : c < 65536) (v : Value) (L : List Cl) (w : World) (hL : Cls w v L) (hok : ∀ p ∈ L, p.ok) :
    Calls Tryd.prog 7 #[.int .u16 (c : Int), v] w fun e w' => e = .returned (.bool true) ∧ Below w.heap.size w w' := by
  have KF := Lib.hid (far_p v L w hL)
  have HL := Lib.hid hL
  obtain ⟨a, capa, rfl⟩ := Row.form2 hL
  clear hL
  by_cases hf : farV L = true
  · rw [hf] at KF
    go_enter Tryd.func7, Tryd.ntmps7
    go_wp2_with fail
    refine KF.out.mono ?_
    rintro e w1 ⟨rfl, hb1⟩
    go_wp2_with fail
    refine (awake_p _).mono ?_
    rintro e w2 ⟨rfl, hb2⟩
    go_wp2_with fail
    go_ret
    exact ⟨rfl, next hb1 hb2⟩
  · rw [Bool.not_eq_true] at hf
    rw [hf] at KF
    obtain ⟨h200, hnames⟩ := not_far hf
    clear hf
    have hm300 : c % 300 < 300 := Nat.mod_lt _ (by omega)
    have KN := Lib.hid (fun w => new_o (w := w) (1 + c % 300) (by omega) (by omega))
    have hcm : ((c : Int) % 300) = ((c % 300 : Nat) : Int) := by omega
    generalize c % 300 = m at *
    go_enter Tryd.func7, Tryd.ntmps7
    go_wp2_with fail
    refine KF.out.mono ?_
    rintro e w1 ⟨rfl, hb1⟩
    have HB1 := Lib.hid hb1
    clear hb1
    go_wp2_with fail
    refine (KN.out w1).mono ?_
    rintro e w2 ⟨A, F, rfl, hO, hF⟩
    have HO := Lib.hid hO
    clear hO hF
    go_wp2_with fail
    have hm1 : L.length ≤ 9223372036854775807 := by omega
    go_loopw [8, 9] (fun wv iv wr => ∃ k : Nat, k ≤ L.length ∧ iv = .int .i64 (k : Nat) ∧ ∃ F cs rs ev, LK w1 wr F A cs rs ev wv (1 + m) k) (fun _ iv _ => L.length - (intOf iv).toNat)
    case atStart => exact ⟨0, by omega, rfl, F, _, [], [], HO.out, by simp, by simp, regsOk_nil _, World.ownsRow_nil _ _ _ _, fun b hb => by simp [blockOf, Value.ownBlock] at hb⟩
    case round =>
      obtain ⟨k, hk, rfl, F1, cs, rs, ev, hK⟩ := hrel
      have HK1 := Lib.hid hK
      have hlc := hK.l
      have hle := hK.e
      obtain ⟨wa, wcap, rfl⟩ := hK.len
      clear hK
      by_cases hlt : k < L.length
      · obtain ⟨g, o, hga, hg, hc0, hc1, hc2, hc3, hc4⟩ := Cls.at (Row.below HL.out (next HB1.out HK1.out.o.b)) hlt
        subst hga
        have i1 : (0 : Int) ≤ (k : Int) := by omega
        have i2 : (k : Int) < (L.length : Int) := by omega
        have wi1 : IntKind.i64.wrap ((k : Int) + 1) = (k : Int) + 1 := IntWalk.i64_in _ (by omega)
        obtain ⟨o1, o2, o3, o4⟩ := hok _ (List.getElem_mem hlt)
        have hnm := hnames _ (List.getElem_mem hlt)
        generalize L[k] = x at *
        have hsz : wr.heap.size < wr.heap.size + 1 := Nat.lt_succ_self _
        have hm9 : x.what % 9 < 9 := Nat.mod_lt _ (by omega)
        by_cases hst : x.what % 9 < 4
        · by_cases hg12 : 0 ≤ x.at' ∧ x.at' < 1 + (m : Int)
          · obtain ⟨hg1, hg2⟩ := hg12
            obtain ⟨t, ht⟩ : ∃ t : Nat, x.at' = t := ⟨x.at'.toNat, by omega⟩
            rw [ht] at hg1 hg2 hc1
            rcases (show x.what % 9 = 0 ∨ x.what % 9 = 1 ∨ x.what % 9 = 2 ∨ x.what % 9 = 3 by omega) with h9 | h9 | h9 | h9
            · have hq : (x.what : Int) % 9 = 0 := by omega
              clear h9 hst hm9
              have hO := HK1.out.o.below ((Below.refl _ _).alloc (Nat.le_refl _) (.cells #[.int .u8 (x.what : Int), .int .i64 (t : Int), .int .i64 x.n, .int .u64 (x.v : Int), .string (str x.name)] 33))
              have K := Lib.hid (load_o (t : Int) hO)
              have hE : stepE cs.length ev.length (t : Int) = 0 := stepE_good (by omega) (by omega) (by omega)
              rw [show stepV cs.length ev 1 (t : Int) = ev ++ [(1, t)] by unfold stepV; rw [hE, if_pos rfl, Int.toNat_natCast], hE] at K
              have wt : IntKind.i32.wrap (t : Int) = (t : Int) := by rw [IntKind.wrap_i32]; omega
              clear hE
              generalize loadV cs ev.length (t : Int) = q at *
              clear hO
              go_wp2_with fail
              refine K.out.mono ?_
              rintro e w4 ⟨rfl, F4, hO4, hT4⟩
              obtain ⟨hX, hf4, hw4⟩ := HK1.out.go hT4
              have x1 : w4.cell? ⟨wr.heap.size, 1, none⟩ = some (.int .i64 (t : Int)) := cell_in hX rfl
              have hs4 := hO4.b.size
              have HO4 := Lib.hid hO4
              have HW4 := Lib.hid hw4
              have HF4 := Lib.hid hf4
              obtain ⟨i0, hi, hz0, hz1, hz2⟩ := info_parts infoEv
              clear hX hT4 hc0 hc1 hc2 hc3 hc4 K hO4 hw4 hf4
              go_wp2_with (at_builtin; refine wpList_append_lies _ rfl _ _ _ rfl w1.heap.size 54 i0 _ 2 8 Tryd.underlying49 hi hz0 hz1 hz2 rfl (by decide) (.slice wa ev.length wcap) ev.length (ecells ev) rfl (HW4.out.alloc _) ⟨w4.heap.size, 0, none⟩ 1 1 [.int .i32 1, .int .i32 (t : Int)] rfl rfl (World.news_of_block (cs := #[.int .i32 1, .int .i32 (t : Int)]) (t := 54) (fr := (0, 0)) (heap_alloc_new w4 _)) (by simp [Value.oneCell']) (by decide) (by unfold maxLen; omega) (by omega) (by simp; omega) (w4.heap.size + 1) (by simp) ?_; intro g9 cap9 w9 hown9 hgrow9 hat9 hlt9)
              have hK9 := LK.log (e := (1, t)) HO4.out hlc hle HK1.out.r HW4.out HF4.out hown9 hgrow9 hat9
              have K5 := Lib.hid (steps_o hK9.o)
              rw [List.length_append, List.length_singleton] at K5
              have HK9 := Lib.hid hK9
              clear hown9 hgrow9 hat9 hlt9 hK9
              go_wp2_with fail
              refine K5.out.mono ?_
              rintro e w10 ⟨rfl, rfl⟩
              clear K5
              go_wp2_with fail
              exact ⟨⟨k + 1, by omega, by go_num, _, _, _, _, HK9.out⟩, by simp [intOf]; omega⟩
            · have hq : (x.what : Int) % 9 = 1 := by omega
              clear h9 hst hm9
              have hO := HK1.out.o.below ((Below.refl _ _).alloc (Nat.le_refl _) (.cells #[.int .u8 (x.what : Int), .int .i64 (t : Int), .int .i64 x.n, .int .u64 (x.v : Int), .string (str x.name)] 33))
              have K := Lib.hid (load_o (t : Int) hO)
              have hE : stepE cs.length ev.length (t : Int) = 0 := stepE_good (by omega) (by omega) (by omega)
              rw [show stepV cs.length ev 1 (t : Int) = ev ++ [(1, t)] by unfold stepV; rw [hE, if_pos rfl, Int.toNat_natCast], hE] at K
              have wt : IntKind.i32.wrap (t : Int) = (t : Int) := by rw [IntKind.wrap_i32]; omega
              clear hE
              generalize loadV cs ev.length (t : Int) = q at *
              clear hO
              go_wp2_with fail
              refine K.out.mono ?_
              rintro e w4 ⟨rfl, F4, hO4, hT4⟩
              obtain ⟨hX, hf4, hw4⟩ := HK1.out.go hT4
              have x1 : w4.cell? ⟨wr.heap.size, 1, none⟩ = some (.int .i64 (t : Int)) := cell_in hX rfl
              have hs4 := hO4.b.size
              have HO4 := Lib.hid hO4
              have HW4 := Lib.hid hw4
              have HF4 := Lib.hid hf4
              obtain ⟨i0, hi, hz0, hz1, hz2⟩ := info_parts infoEv
              clear hX hT4 hc0 hc1 hc2 hc3 hc4 K hO4 hw4 hf4
              go_wp2_with (at_builtin; refine wpList_append_lies _ rfl _ _ _ rfl w1.heap.size 54 i0 _ 2 8 Tryd.underlying49 hi hz0 hz1 hz2 rfl (by decide) (.slice wa ev.length wcap) ev.length (ecells ev) rfl (HW4.out.alloc _) ⟨w4.heap.size, 0, none⟩ 1 1 [.int .i32 1, .int .i32 (t : Int)] rfl rfl (World.news_of_block (cs := #[.int .i32 1, .int .i32 (t : Int)]) (t := 54) (fr := (0, 0)) (heap_alloc_new w4 _)) (by simp [Value.oneCell']) (by decide) (by unfold maxLen; omega) (by omega) (by simp; omega) (w4.heap.size + 1) (by simp) ?_; intro g9 cap9 w9 hown9 hgrow9 hat9 hlt9)
              have hK9 := LK.log (e := (1, t)) HO4.out hlc hle HK1.out.r HW4.out HF4.out hown9 hgrow9 hat9
              have K5 := Lib.hid (steps_o hK9.o)
              rw [List.length_append, List.length_singleton] at K5
              have HK9 := Lib.hid hK9
              clear hown9 hgrow9 hat9 hlt9 hK9
              go_wp2_with fail
              refine K5.out.mono ?_
              rintro e w10 ⟨rfl, rfl⟩
              clear K5
              go_wp2_with fail
              exact ⟨⟨k + 1, by omega, by go_num, _, _, _, _, HK9.out⟩, by simp [intOf]; omega⟩
            · have hq : (x.what : Int) % 9 = 2 := by omega
              clear h9 hst hm9
              have hO := HK1.out.o.below ((Below.refl _ _).alloc (Nat.le_refl _) (.cells #[.int .u8 (x.what : Int), .int .i64 (t : Int), .int .i64 x.n, .int .u64 (x.v : Int), .string (str x.name)] 33))
              have K := Lib.hid (store_o (t : Int) x.v o4 hO)
              have hE : stepE cs.length ev.length (t : Int) = 0 := stepE_good (by omega) (by omega) (by omega)
              rw [show stepV cs.length ev 2 (t : Int) = ev ++ [(2, t)] by unfold stepV; rw [hE, if_pos rfl, Int.toNat_natCast], hE] at K
              have wt : IntKind.i32.wrap (t : Int) = (t : Int) := by rw [IntKind.wrap_i32]; omega
              clear hE
              have hlc2 : (storeV cs ev.length (t : Int) x.v).length = 1 + m := storeV_len.trans hlc
              generalize storeV cs ev.length (t : Int) x.v = cs2 at *
              clear hO
              go_wp2_with fail
              refine K.out.mono ?_
              rintro e w4 ⟨rfl, F4, hO4, hT4⟩
              obtain ⟨hX, hf4, hw4⟩ := HK1.out.go hT4
              have x1 : w4.cell? ⟨wr.heap.size, 1, none⟩ = some (.int .i64 (t : Int)) := cell_in hX rfl
              have hs4 := hO4.b.size
              have HO4 := Lib.hid hO4
              have HW4 := Lib.hid hw4
              have HF4 := Lib.hid hf4
              obtain ⟨i0, hi, hz0, hz1, hz2⟩ := info_parts infoEv
              clear hX hT4 hc0 hc1 hc2 hc3 hc4 K hO4 hw4 hf4
              go_wp2_with (at_builtin; refine wpList_append_lies _ rfl _ _ _ rfl w1.heap.size 54 i0 _ 2 8 Tryd.underlying49 hi hz0 hz1 hz2 rfl (by decide) (.slice wa ev.length wcap) ev.length (ecells ev) rfl (HW4.out.alloc _) ⟨w4.heap.size, 0, none⟩ 1 1 [.int .i32 2, .int .i32 (t : Int)] rfl rfl (World.news_of_block (cs := #[.int .i32 2, .int .i32 (t : Int)]) (t := 54) (fr := (0, 0)) (heap_alloc_new w4 _)) (by simp [Value.oneCell']) (by decide) (by unfold maxLen; omega) (by omega) (by simp; omega) (w4.heap.size + 1) (by simp) ?_; intro g9 cap9 w9 hown9 hgrow9 hat9 hlt9)
              have hK9 := LK.log (e := (2, t)) HO4.out hlc2 hle HK1.out.r HW4.out HF4.out hown9 hgrow9 hat9
              have K5 := Lib.hid (steps_o hK9.o)
              rw [List.length_append, List.length_singleton] at K5
              have HK9 := Lib.hid hK9
              clear hown9 hgrow9 hat9 hlt9 hK9
              go_wp2_with fail
              refine K5.out.mono ?_
              rintro e w10 ⟨rfl, rfl⟩
              clear K5
              go_wp2_with fail
              exact ⟨⟨k + 1, by omega, by go_num, _, _, _, _, HK9.out⟩, by simp [intOf]; omega⟩
            · have hq : (x.what : Int) % 9 = 3 := by omega
              clear h9 hst hm9
              have hO := HK1.out.o.below ((Below.refl _ _).alloc (Nat.le_refl _) (.cells #[.int .u8 (x.what : Int), .int .i64 (t : Int), .int .i64 x.n, .int .u64 (x.v : Int), .string (str x.name)] 33))
              have K := Lib.hid (store_o (t : Int) x.v o4 hO)
              have hE : stepE cs.length ev.length (t : Int) = 0 := stepE_good (by omega) (by omega) (by omega)
              rw [show stepV cs.length ev 2 (t : Int) = ev ++ [(2, t)] by unfold stepV; rw [hE, if_pos rfl, Int.toNat_natCast], hE] at K
              have wt : IntKind.i32.wrap (t : Int) = (t : Int) := by rw [IntKind.wrap_i32]; omega
              clear hE
              have hlc2 : (storeV cs ev.length (t : Int) x.v).length = 1 + m := storeV_len.trans hlc
              generalize storeV cs ev.length (t : Int) x.v = cs2 at *
              clear hO
              go_wp2_with fail
              refine K.out.mono ?_
              rintro e w4 ⟨rfl, F4, hO4, hT4⟩
              obtain ⟨hX, hf4, hw4⟩ := HK1.out.go hT4
              have x1 : w4.cell? ⟨wr.heap.size, 1, none⟩ = some (.int .i64 (t : Int)) := cell_in hX rfl
              have hs4 := hO4.b.size
              have HO4 := Lib.hid hO4
              have HW4 := Lib.hid hw4
              have HF4 := Lib.hid hf4
              obtain ⟨i0, hi, hz0, hz1, hz2⟩ := info_parts infoEv
              clear hX hT4 hc0 hc1 hc2 hc3 hc4 K hO4 hw4 hf4
              go_wp2_with (at_builtin; refine wpList_append_lies _ rfl _ _ _ rfl w1.heap.size 54 i0 _ 2 8 Tryd.underlying49 hi hz0 hz1 hz2 rfl (by decide) (.slice wa ev.length wcap) ev.length (ecells ev) rfl (HW4.out.alloc _) ⟨w4.heap.size, 0, none⟩ 1 1 [.int .i32 2, .int .i32 (t : Int)] rfl rfl (World.news_of_block (cs := #[.int .i32 2, .int .i32 (t : Int)]) (t := 54) (fr := (0, 0)) (heap_alloc_new w4 _)) (by simp [Value.oneCell']) (by decide) (by unfold maxLen; omega) (by omega) (by simp; omega) (w4.heap.size + 1) (by simp) ?_; intro g9 cap9 w9 hown9 hgrow9 hat9 hlt9)
              have hK9 := LK.log (e := (2, t)) HO4.out hlc2 hle HK1.out.r HW4.out HF4.out hown9 hgrow9 hat9
              have K5 := Lib.hid (steps_o hK9.o)
              rw [List.length_append, List.length_singleton] at K5
              have HK9 := Lib.hid hK9
              clear hown9 hgrow9 hat9 hlt9 hK9
              go_wp2_with fail
              refine K5.out.mono ?_
              rintro e w10 ⟨rfl, rfl⟩
              clear K5
              go_wp2_with fail
              exact ⟨⟨k + 1, by omega, by go_num, _, _, _, _, HK9.out⟩, by simp [intOf]; omega⟩
          · rcases (show x.what % 9 = 0 ∨ x.what % 9 = 1 ∨ x.what % 9 = 2 ∨ x.what % 9 = 3 by omega) with h9 | h9 | h9 | h9
            · have hq : (x.what : Int) % 9 = 0 := by omega
              clear h9 hst hm9
              have hO := HK1.out.o.below ((Below.refl _ _).alloc (Nat.le_refl _) (.cells #[.int .u8 (x.what : Int), .int .i64 x.at', .int .i64 x.n, .int .u64 (x.v : Int), .string (str x.name)] 33))
              have K := Lib.hid (load_o x.at' hO)
              have hE : stepE cs.length ev.length x.at' = 7 := stepE_bad (by omega)
              rw [show stepV cs.length ev 1 x.at' = ev by unfold stepV; rw [hE, if_neg (by decide)], hE] at K
              clear hE
              generalize loadV cs ev.length x.at' = q at *
              clear hO
              go_wp2_with fail
              refine K.out.mono ?_
              rintro e w4 ⟨rfl, F4, hO4, hT4⟩
              obtain ⟨hX, hf4, hw4⟩ := HK1.out.go hT4
              have hK9 := LK.next hO4 hlc hle HK1.out.r hw4 hf4
              have K5 := Lib.hid (steps_o hK9.o)
              have HK9 := Lib.hid hK9
              clear hX hT4 hc0 hc1 hc2 hc3 hc4 K hO4 hw4 hf4 hK9
              go_wp2_with fail
              refine K5.out.mono ?_
              rintro e w10 ⟨rfl, rfl⟩
              clear K5
              go_wp2_with fail
              exact ⟨⟨k + 1, by omega, by go_num, _, _, _, _, HK9.out⟩, by simp [intOf]; omega⟩
            · have hq : (x.what : Int) % 9 = 1 := by omega
              clear h9 hst hm9
              have hO := HK1.out.o.below ((Below.refl _ _).alloc (Nat.le_refl _) (.cells #[.int .u8 (x.what : Int), .int .i64 x.at', .int .i64 x.n, .int .u64 (x.v : Int), .string (str x.name)] 33))
              have K := Lib.hid (load_o x.at' hO)
              have hE : stepE cs.length ev.length x.at' = 7 := stepE_bad (by omega)
              rw [show stepV cs.length ev 1 x.at' = ev by unfold stepV; rw [hE, if_neg (by decide)], hE] at K
              clear hE
              generalize loadV cs ev.length x.at' = q at *
              clear hO
              go_wp2_with fail
              refine K.out.mono ?_
              rintro e w4 ⟨rfl, F4, hO4, hT4⟩
              obtain ⟨hX, hf4, hw4⟩ := HK1.out.go hT4
              have hK9 := LK.next hO4 hlc hle HK1.out.r hw4 hf4
              have K5 := Lib.hid (steps_o hK9.o)
              have HK9 := Lib.hid hK9
              clear hX hT4 hc0 hc1 hc2 hc3 hc4 K hO4 hw4 hf4 hK9
              go_wp2_with fail
              refine K5.out.mono ?_
              rintro e w10 ⟨rfl, rfl⟩
              clear K5
              go_wp2_with fail
              exact ⟨⟨k + 1, by omega, by go_num, _, _, _, _, HK9.out⟩, by simp [intOf]; omega⟩
            · have hq : (x.what : Int) % 9 = 2 := by omega
              clear h9 hst hm9
              have hO := HK1.out.o.below ((Below.refl _ _).alloc (Nat.le_refl _) (.cells #[.int .u8 (x.what : Int), .int .i64 x.at', .int .i64 x.n, .int .u64 (x.v : Int), .string (str x.name)] 33))
              have K := Lib.hid (store_o x.at' x.v o4 hO)
              have hE : stepE cs.length ev.length x.at' = 7 := stepE_bad (by omega)
              rw [show stepV cs.length ev 2 x.at' = ev by unfold stepV; rw [hE, if_neg (by decide)], hE] at K
              clear hE
              have hlc2 : (storeV cs ev.length x.at' x.v).length = 1 + m := storeV_len.trans hlc
              generalize storeV cs ev.length x.at' x.v = cs2 at *
              clear hO
              go_wp2_with fail
              refine K.out.mono ?_
              rintro e w4 ⟨rfl, F4, hO4, hT4⟩
              obtain ⟨hX, hf4, hw4⟩ := HK1.out.go hT4
              have hK9 := LK.next hO4 hlc2 hle HK1.out.r hw4 hf4
              have K5 := Lib.hid (steps_o hK9.o)
              have HK9 := Lib.hid hK9
              clear hX hT4 hc0 hc1 hc2 hc3 hc4 K hO4 hw4 hf4 hK9
              go_wp2_with fail
              refine K5.out.mono ?_
              rintro e w10 ⟨rfl, rfl⟩
              clear K5
              go_wp2_with fail
              exact ⟨⟨k + 1, by omega, by go_num, _, _, _, _, HK9.out⟩, by simp [intOf]; omega⟩
            · have hq : (x.what : Int) % 9 = 3 := by omega
              clear h9 hst hm9
              have hO := HK1.out.o.below ((Below.refl _ _).alloc (Nat.le_refl _) (.cells #[.int .u8 (x.what : Int), .int .i64 x.at', .int .i64 x.n, .int .u64 (x.v : Int), .string (str x.name)] 33))
              have K := Lib.hid (store_o x.at' x.v o4 hO)
              have hE : stepE cs.length ev.length x.at' = 7 := stepE_bad (by omega)
              rw [show stepV cs.length ev 2 x.at' = ev by unfold stepV; rw [hE, if_neg (by decide)], hE] at K
              clear hE
              have hlc2 : (storeV cs ev.length x.at' x.v).length = 1 + m := storeV_len.trans hlc
              generalize storeV cs ev.length x.at' x.v = cs2 at *
              clear hO
              go_wp2_with fail
              refine K.out.mono ?_
              rintro e w4 ⟨rfl, F4, hO4, hT4⟩
              obtain ⟨hX, hf4, hw4⟩ := HK1.out.go hT4
              have hK9 := LK.next hO4 hlc2 hle HK1.out.r hw4 hf4
              have K5 := Lib.hid (steps_o hK9.o)
              have HK9 := Lib.hid hK9
              clear hX hT4 hc0 hc1 hc2 hc3 hc4 K hO4 hw4 hf4 hK9
              go_wp2_with fail
              refine K5.out.mono ?_
              rintro e w10 ⟨rfl, rfl⟩
              clear K5
              go_wp2_with fail
              exact ⟨⟨k + 1, by omega, by go_num, _, _, _, _, HK9.out⟩, by simp [intOf]; omega⟩
        · rcases (show x.what % 9 = 4 ∨ x.what % 9 = 5 ∨ x.what % 9 = 8 ∨ x.what % 9 = 6 ∨ x.what % 9 = 7 by omega) with h9 | h9 | h9 | h9 | h9
          · have hq : (x.what : Int) % 9 = 4 := by omega
            clear h9 hst hm9
            have hO := HK1.out.o.below ((Below.refl _ _).alloc (Nat.le_refl _) (.cells #[.int .u8 (x.what : Int), .int .i64 x.at', .int .i64 x.n, .int .u64 (x.v : Int), .string (str x.name)] 33))
            have K := Lib.hid (region_o x.name (by omega) x.n (by rw [hlc]; exact HK1.out.r) hO)
            have HR2 := Lib.hid (regsOk_regV (nm := x.name) (k := x.n) HK1.out.r)
            rw [hlc] at K
            generalize regV (1 + m) rs x.name x.n = rs2 at *
            generalize regE (1 + m) rs x.name x.n = E at *
            generalize regB (1 + m) rs x.name x.n = B at *
            clear hO
            go_wp2_with fail
            refine K.out.mono ?_
            rintro e w4 ⟨rfl, F4, hO4, hT4⟩
            obtain ⟨hX, hf4, hw4⟩ := HK1.out.go hT4
            have hK9 := LK.next hO4 hlc hle HR2.out hw4 hf4
            have K5 := Lib.hid (steps_o hK9.o)
            have HK9 := Lib.hid hK9
            clear hK9 hX hT4 hc0 hc1 hc2 hc3 hc4 K hO4 hw4 hf4
            go_wp2_with fail
            refine K5.out.mono ?_
            rintro e w10 ⟨rfl, rfl⟩
            clear K5
            go_wp2_with fail
            exact ⟨⟨k + 1, by omega, by go_num, _, _, _, _, HK9.out⟩, by simp [intOf]; omega⟩
          · have hq : (x.what : Int) % 9 = 5 := by omega
            clear h9 hst hm9
            have hO := HK1.out.o.below ((Below.refl _ _).alloc (Nat.le_refl _) (.cells #[.int .u8 (x.what : Int), .int .i64 x.at', .int .i64 x.n, .int .u64 (x.v : Int), .string (str x.name)] 33))
            have K := Lib.hid (find_o x.name hO)
            have HBA := Lib.hid ((Below.refl wr.heap.size wr).alloc (Nat.le_refl _) (.cells #[.int .u8 (x.what : Int), .int .i64 x.at', .int .i64 x.n, .int .u64 (x.v : Int), .string (str x.name)] 33))
            generalize findV rs x.name = fr at *
            generalize findE rs x.name = E at *
            clear hO
            go_wp2_with fail
            refine K.out.mono ?_
            rintro e w4 ⟨rfl, hO4, hB4⟩
            have hK8 := HK1.out.below (next HBA.out hB4)
            have hK9 := LK.next hK8.o hlc hle hK8.r hK8.w hK8.f
            have K5 := Lib.hid (steps_o hK9.o)
            have HK9 := Lib.hid hK9
            clear hK9 hc0 hc1 hc2 hc3 hc4 K hO4 hB4 hK8
            go_wp2_with fail
            refine K5.out.mono ?_
            rintro e w10 ⟨rfl, rfl⟩
            clear K5
            go_wp2_with fail
            exact ⟨⟨k + 1, by omega, by go_num, _, _, _, _, HK9.out⟩, by simp [intOf]; omega⟩
          · have hq : (x.what : Int) % 9 = 8 := by omega
            clear h9 hst hm9
            have hO := HK1.out.o.below ((Below.refl _ _).alloc (Nat.le_refl _) (.cells #[.int .u8 (x.what : Int), .int .i64 x.at', .int .i64 x.n, .int .u64 (x.v : Int), .string (str x.name)] 33))
            have K := Lib.hid (cells_o hO)
            have HBA := Lib.hid ((Below.refl wr.heap.size wr).alloc (Nat.le_refl _) (.cells #[.int .u8 (x.what : Int), .int .i64 x.at', .int .i64 x.n, .int .u64 (x.v : Int), .string (str x.name)] 33))
            clear hO
            go_wp2_with fail
            refine K.out.mono ?_
            rintro e w4 ⟨v4, rfl, hR4, hOff4, hO4, hT4⟩
            have K2 := Lib.hid (forget_o hO4)
            have HR4 := Lib.hid hR4
            have HOff4 := Lib.hid hOff4
            clear hc0 hc1 hc2 hc3 hc4 K hO4 hT4 hR4 hOff4
            go_wp2_with fail
            refine K2.out.mono ?_
            rintro e w5 ⟨rfl, F5, hO5, hT5⟩
            have HR5 := Lib.hid (Row.turn HR4.out HOff4.out hT5)
            have HOff5 := Lib.hid (Off.turn HOff4.out hT5)
            have K3 := Lib.hid (cells_o hO5)
            clear K2 hO5 hT5
            go_wp2_with fail
            refine K3.out.mono ?_
            rintro e w6 ⟨v6, rfl, hR6, -, hO6, hT6⟩
            have K4 := Lib.hid (same_u v6 v4 _ _ w6 hR6 (Row.turn HR5.out HOff5.out hT6))
            rw [decide_eq_true rfl] at K4
            have HO6 := Lib.hid hO6
            clear K3 hR6 hO6 hT6
            go_wp2_with fail
            refine K4.out.mono ?_
            rintro e w7 ⟨rfl, hb7⟩
            have hK9 : LK w1 w7 F5 A cs rs [] (.slice none 0 0) (1 + m) (k + 1) := ⟨HO6.out.below hb7, hlc, by simp, HK1.out.r, World.ownsRow_nil _ _ _ _, fun b hb => by simp [blockOf, Value.ownBlock] at hb⟩
            have K5 := Lib.hid (steps_o hK9.o)
            have HK9 := Lib.hid hK9
            clear hK9 K4 hb7
            go_wp2_with fail
            refine K5.out.mono ?_
            rintro e w10 ⟨rfl, rfl⟩
            clear K5
            go_wp2_with fail
            exact ⟨⟨k + 1, by omega, by go_num, _, _, _, _, HK9.out⟩, by simp [intOf]; omega⟩
          · have hq : (x.what : Int) % 9 = 6 := by omega
            clear h9 hst hm9
            have hO := HK1.out.o.below ((Below.refl _ _).alloc (Nat.le_refl _) (.cells #[.int .u8 (x.what : Int), .int .i64 x.at', .int .i64 x.n, .int .u64 (x.v : Int), .string (str x.name)] 33))
            have hX : (wr.alloc (.cells #[.int .u8 (x.what : Int), .int .i64 x.at', .int .i64 x.n, .int .u64 (x.v : Int), .string (str x.name)] 33)).heap[wr.heap.size]? = _ := heap_alloc_new _ _
            have K := Lib.hid (has_o x.at' x.n hO)
            have K2 := Lib.hid (room_o x.n hO)
            have K3 := Lib.hid (since_o x.n hO)
            have HBA := Lib.hid ((Below.refl wr.heap.size wr).alloc (Nat.le_refl _) (.cells #[.int .u8 (x.what : Int), .int .i64 x.at', .int .i64 x.n, .int .u64 (x.v : Int), .string (str x.name)] 33))
            clear hO
            go_wp2_with fail
            refine K.out.mono ?_
            rintro e w4 ⟨rfl, rfl⟩
            go_wp2_with fail
            refine K2.out.mono ?_
            rintro e w4 ⟨rfl, rfl⟩
            go_wp2_with fail
            refine K3.out.mono ?_
            rintro e w4 ⟨v4, rfl, hR4, -, hO4, hT4⟩
            have hK8 := (HK1.out.below HBA.out).turn hO4 hT4
            have hK9 := LK.next hK8.o hlc hle hK8.r hK8.w hK8.f
            have K5 := Lib.hid (steps_o hK9.o)
            have HK9 := Lib.hid hK9
            clear hK9 hc0 hc1 hc2 hc3 hc4 K K2 K3 hO4 hT4 hR4 hK8 hX
            go_wp2_with fail
            refine K5.out.mono ?_
            rintro e w10 ⟨rfl, rfl⟩
            clear K5
            go_wp2_with fail
            exact ⟨⟨k + 1, by omega, by go_num, _, _, _, _, HK9.out⟩, by simp [intOf]; omega⟩
          · have hq : (x.what : Int) % 9 = 7 := by omega
            clear h9 hst hm9
            have hO := HK1.out.o.below ((Below.refl _ _).alloc (Nat.le_refl _) (.cells #[.int .u8 (x.what : Int), .int .i64 x.at', .int .i64 x.n, .int .u64 (x.v : Int), .string (str x.name)] 33))
            have hX : (wr.alloc (.cells #[.int .u8 (x.what : Int), .int .i64 x.at', .int .i64 x.n, .int .u64 (x.v : Int), .string (str x.name)] 33)).heap[wr.heap.size]? = _ := heap_alloc_new _ _
            have K := Lib.hid (has_o x.at' x.n hO)
            have K2 := Lib.hid (room_o x.n hO)
            have K3 := Lib.hid (since_o x.n hO)
            have HBA := Lib.hid ((Below.refl wr.heap.size wr).alloc (Nat.le_refl _) (.cells #[.int .u8 (x.what : Int), .int .i64 x.at', .int .i64 x.n, .int .u64 (x.v : Int), .string (str x.name)] 33))
            clear hO
            go_wp2_with fail
            refine K.out.mono ?_
            rintro e w4 ⟨rfl, rfl⟩
            go_wp2_with fail
            refine K2.out.mono ?_
            rintro e w4 ⟨rfl, rfl⟩
            go_wp2_with fail
            refine K3.out.mono ?_
            rintro e w4 ⟨v4, rfl, hR4, -, hO4, hT4⟩
            have hK8 := (HK1.out.below HBA.out).turn hO4 hT4
            have hK9 := LK.next hK8.o hlc hle hK8.r hK8.w hK8.f
            have K5 := Lib.hid (steps_o hK9.o)
            have HK9 := Lib.hid hK9
            clear hK9 hc0 hc1 hc2 hc3 hc4 K K2 K3 hO4 hT4 hR4 hK8 hX
            go_wp2_with fail
            refine K5.out.mono ?_
            rintro e w10 ⟨rfl, rfl⟩
            clear K5
            go_wp2_with fail
            exact ⟨⟨k + 1, by omega, by go_num, _, _, _, _, HK9.out⟩, by simp [intOf]; omega⟩
      · obtain rfl : L.length = k := by omega
        have i1 : ¬ ((L.length : Int) < (L.length : Int)) := by omega
        have K := Lib.hid (events_o HK1.out.o)
        go_wp2_with fail
        refine K.out.mono ?_
        rintro e w4 ⟨v4, rfl, hR4, -, hO4, hT4⟩
        have hK4 := HK1.out.turn hO4 hT4
        have K2 := Lib.hid (same_ev v4 _ _ _ w4 hR4 (Row.of_owns hK4.w))
        rw [decide_eq_true rfl] at K2
        have HK4 := Lib.hid hK4
        clear K hR4 hO4 hT4 hK4
        go_wp2_with fail
        refine K2.out.mono ?_
        rintro e w5 ⟨rfl, hb5⟩
        have HK5 := Lib.hid (HK4.out.below hb5)
        clear hb5 K2
        go_wp2_with fail
        go_loopw [13] (fun jv wr => ∃ j : Nat, j ≤ ev.length + 1 ∧ jv = .int .i64 (j : Nat) ∧ LK w1 wr F1 A cs rs ev (.slice wa ev.length wcap) (1 + m) L.length) (fun jv _ => ev.length + 1 - (intOf jv).toNat)
        case atStart => exact ⟨0, by omega, rfl, HK5.out⟩
        case round =>
          obtain ⟨j, hj, rfl, hK⟩ := hrel
          have HK6 := Lib.hid hK
          clear hK
          by_cases hjt : j ≤ ev.length
          · have j1 : (0 : Int) ≤ (j : Int) := by omega
            have j2 : (j : Int) ≤ (ev.length : Int) := by omega
            have wj1 : IntKind.i64.wrap ((j : Int) + 1) = (j : Int) + 1 := IntWalk.i64_in _ (by omega)
            obtain ⟨e1, e2⟩ := sinceV_in hjt
            have K := Lib.hid (since_o (j : Int) HK6.out.o)
            rw [e1, e2] at K
            clear e1 e2
            go_wp2_with fail
            refine K.out.mono ?_
            rintro e w7 ⟨v7, rfl, hR7, -, hO7, hT7⟩
            have hK7 := HK6.out.turn hO7 hT7
            obtain ⟨V, hV, hVR⟩ := slice_from hK7.w j hjt (by unfold maxLen; omega) rfl
            have K2 := Lib.hid (same_ev v7 V _ _ w7 hR7 (by rw [ecells_drop] at hVR; rw [← List.length_drop] at hVR; exact hVR))
            rw [decide_eq_true rfl] at K2
            have HK7 := Lib.hid hK7
            clear K hR7 hO7 hT7 hK7 hVR
            go_wp2_with fail
            refine K2.out.mono ?_
            rintro e w8 ⟨rfl, hb8⟩
            have HK8 := Lib.hid (HK7.out.below hb8)
            clear hb8 K2
            go_wp2_with fail
            exact ⟨⟨j + 1, by omega, by go_num, HK8.out⟩, by simp [intOf]; omega⟩
          · have j2 : ¬ (j : Int) ≤ (ev.length : Int) := by omega
            go_wp2_with fail
            refine (awake_p _).mono ?_
            rintro e w9 ⟨rfl, hb9⟩
            go_wp2_with fail
            go_ret
            exact ⟨rfl, next (next HB1.out HK6.out.o.b) hb9⟩
set_option maxRecDepth 100000 in
theorem walk {H : Type} {enc : TypeId × Value → H} {d : DataW H} {q : List MemPlace} {base : Nat} (a : Int) (v : Value) (w : World) (ha : IntKind.u16.has a)
    (hk : DataW.Trod enc Tryd.prog w 0 (fun _ => true) true 23 v d q) (_ : Value.okWide Tryd.prog w .any base 23 v) :
    Calls Tryd.prog 7 #[.int .u16 a, v] w fun e w' => e = .returned (.bool true) ∧ Below w.heap.size w w' := by
  obtain ⟨m, hn⟩ := hk
  rename_i hv
  obtain ⟨z, len, cap, rfl⟩ := okWide_slice Tryd.underlying23 hv
  obtain ⟨L, hL, hok⟩ := calls_of hn
  have := has_u16 ha
  obtain ⟨c, rfl⟩ : ∃ c : Nat, a = c := ⟨a.toNat, by omega⟩
  exact walkK c (by omega) _ L w hL hok

theorem own : ownKnob Tryd.prog.godebug = none := by kernel_rfl
theorem laidOut : laidOutB Tryd.prog = true := by kernel_rfl
abbrev laidL : List (String × DataW Unit) := [("unicode/utf8.acceptRanges", Rows.laid_unicode_utf8_acceptRanges), ("unicode/utf8.first", Rows.laid_unicode_utf8_first)]

set_option maxRecDepth 100000 in
theorem lifted (os : Os) (started : os.Started) (H : Type) (enc : TypeId × Value → H) :
    ReturnsInHanded {} Tryd.checked os 7 .any (fun w args => (Rows.arenaLogsSpec.pre enc Tryd.prog Tryd.f7 [] false w args ∧ laidMetH Tryd.prog laidL w) ∧ sizedMet enc Tryd.prog Tryd.f7 (OpenSpec.ofChange Rows.arenaLogsSpec) false w args) (Rows.arenaLogsSpec.post enc Tryd.prog Tryd.f7 false true false false) := by
  refine returnsInHanded_of_change_and (C := Tryd.checked) (X := fun w _ => laidMetH Tryd.prog laidL w) (fun _ _ _ hh h => h.of_heap hh) own started (by kernel_rfl) Tryd.func7
    (ChangeSpec.witness_shaped (enc := enc) (C := Tryd.checked) (os := os) (X := fun w _ => laidMetH Tryd.prog laidL w) false (laidWorld os) #[.int .u16 0, .slice none 0 0] 8 rfl (World.shaped_of_RefB (by kernel_rfl) (by kernel_rfl)) (by kernel_rfl) (by kernel_rfl) (by kernel_rfl) (door_met os _)) ?_
  intro W base args ds gs before hval0 hW _ _ _ _
  have hval : ∀ (j : Nat) t v, Tryd.f7.params[j]? = some t → args[j]? = some v → Value.okWide Tryd.prog W .any base t v := hval0
  have hW' := hW
  obtain ⟨p, q, hA0, hV, rfl, hfz, hnd⟩ := hW
  have hA : DataW.TrodAll enc Tryd.prog W 0 (fun _ => true) true Tryd.f7.params.toList args.toList ds p := hA0
  rw [Tryd.params7] at hA hval
  obtain ⟨v0, vs0, d0, ds0, p0, q0, hargs, rfl, rfl, k0, r0⟩ := trodAll_cons hA
  obtain ⟨v1, vs1, d1, ds1, p1, q1, rfl, rfl, rfl, k1, r1⟩ := trodAll_cons r0
  obtain ⟨rfl, rfl, rfl⟩ := trodAll_nil r1
  obtain rfl : args = #[v0, v1] := by cases args; simp_all
  obtain ⟨rfl, rfl⟩ := trodVars_none hV
  have lt0 : ∀ x ∈ p0, x.block < W.heap.size := by obtain ⟨m, hm⟩ := k0; exact DataW.trod_lt m _ _ _ hm
  have lt1 : ∀ x ∈ p1, x.block < W.heap.size := by obtain ⟨m, hm⟩ := k1; exact DataW.trod_lt m _ _ _ hm
  obtain ⟨a0, rfl, w0⟩ := arg_int Tryd.underlying22 (hval 0 22 v0 rfl rfl)
  clear hA0 hval0
  refine (walk a0 v1 W w0 k1 (hval 1 23 v1 rfl rfl)).mono fun e W' ⟨he, bel⟩ => ?_
  subst he
  exact ⟨_, rfl, _, _, _, [], _, [], hW', trodAll_mk1 (shut_bool Tryd.underlying4 _), (trodAll_cons_mk (Below.trod laidOut (by kernel_rfl) (of_decide_eq_true (by kernel_rfl)) k0 bel lt0) (trodAll_cons_mk (Below.trod laidOut (by kernel_rfl) (of_decide_eq_true (by kernel_rfl)) k1 bel lt1) trodAll_mk0)), rfl, bel.frame _, fun h => by cases h⟩

theorem over : Rows.arenaLogsRow.holds Tryd.pinned (OpenSpec.ofChange Rows.arenaLogsSpec) :=
  OpenClaim.holds_of_wide 7 Tryd.f7 rfl rfl rfl rfl rfl rfl rfl ⟨rfl, rfl, rfl, rfl, rfl⟩ rfl rfl rfl rfl rfl (by kernel_rfl) Tryd.func7 (by kernel_rfl)
    (of_decide_eq_true (by kernel_rfl)) (by unfold Func.isWrapper; first | (rw [if_pos (by decide +kernel)]; kernel_rfl) | (rw [if_neg (by decide +kernel)]; exact ⟨rfl, rfl⟩))
    (fun os started H enc _ => lifted os started H enc)

theorem proved : Rows.ArenaLogsCardSaid :=
  Claim7.holds_tied_plain_at .later [] [.data, .pinned] true (true, "fa0ba3bc22dc5505d8766bf6efcc6355ea8fadaca26ff31e805dd7d45e3f142c") false
    over (fun _ h => by cases h) (by kernel_rfl) (fun _ h => by cases h) arenaLogs_row_tie rfl ⟨rfl, rfl⟩ (by kernel_rfl) rfl
    (fun f fn hf hfn => by
      obtain rfl : f = 7 := Option.some.inj ((show Tryd.prog.funcNamed "dragnet/dragnetlaw05.ArenaLogs" = some 7 by kernel_rfl).symm.trans hf) |>.symm
      obtain rfl : fn = Tryd.f7 := (Option.some.inj (Tryd.func7.symm.trans hfn)).symm
      exact ⟨by kernel_rfl, fun j t ht => by
        rw [Tryd.params7] at ht
        have hm : t ∈ ([22, 23] : List Nat) := by simpa using Array.mem_of_getElem? ht
        have hall : (([22, 23] : List Nat).all fun u => !Tryd.prog.wantsStandIn u) = true := by kernel_rfl
        exact (show Tryd.prog.wantsStandIn t = false by simpa using List.all_eq_true.1 hall t hm)⟩)
    (by kernel_rfl)
#print axioms proved
end Go.Proofs.YtomjefplacgoeaaDoor.arenaLogs
