/- ClassesLaws: the law returns true: the laws of a boolean algebra. No conditions beside the laid table. -/
import Derived.Test.YtooiegejchcbhaaDoorKLawS
import Derived.Test.YtooiegejchcbhaaDoorTie
import Derived.Test.YtooiegejchcbhaaDoorCards
import Derived.SevenTiedAt
import Derived.Deep.RegionHeld3
import Derived.Deep.CutRange
namespace Go.Proofs.YtooiegejchcbhaaDoor.classesLaws
open Go.ChangeShapes Go.WideShapes Go.ChangeAt Go.RowKit Go.Sort

/-- the laws of sets -/
theorem all_set : rangeS 0 255 = BitVec.allOnes 256 ∧ rangeE 0 255 = 0 := by
  refine ⟨set_ext fun b hb => ?_, rfl⟩
  have := hasB_run (x := 0) (y := 255) (b := b) (by omega) (by omega) hb
  rw [Bool.eq_iff_iff]
  exact ⟨fun _ => by rw [hasB, BitVec.getLsbD_allOnes]; exact decide_eq_true hb, fun _ => this.2 ⟨by omega, by omega⟩⟩
theorem absorb1 (a b : CSet) : a ||| (a &&& b) = a := set_ext fun k _ => by simp only [hasB, BitVec.getLsbD_or, BitVec.getLsbD_and]; cases a.getLsbD k <;> simp
theorem absorb2 (a b : CSet) : a &&& (a ||| b) = a := set_ext fun k _ => by simp only [hasB, BitVec.getLsbD_or, BitVec.getLsbD_and]; cases a.getLsbD k <;> simp
theorem dist1 (a b c : CSet) : a &&& (b ||| c) = (a &&& b) ||| (a &&& c) := set_ext fun k _ => by simp only [hasB, BitVec.getLsbD_or, BitVec.getLsbD_and]; cases a.getLsbD k <;> simp
theorem dist2 (a b c : CSet) : a ||| (b &&& c) = (a ||| b) &&& (a ||| c) := set_ext fun k _ => by simp only [hasB, BitVec.getLsbD_or, BitVec.getLsbD_and]; cases a.getLsbD k <;> simp
theorem compl1 (a : CSet) : a ||| ~~~a = BitVec.allOnes 256 := set_ext fun k hk => by simp only [hasB, BitVec.getLsbD_or, BitVec.getLsbD_not, BitVec.getLsbD_allOnes]; cases a.getLsbD k <;> simp [hk]
theorem compl2 (a : CSet) : a &&& ~~~a = 0#256 := set_ext fun k hk => by simp [hasB]
theorem deM (a b : CSet) : ~~~(a ||| b) = ~~~a &&& ~~~b := set_ext fun k hk => by simp [hasB, hk]

structure HG (w : World) (BA B1 B2 : Nat) (a b c L U M : CSet) (W : World) : Prop where
  sa : SetC W w.heap.size a
  sb : SetC W (w.heap.size + 1) b
  sc : SetC W (w.heap.size + 2) c
  sl : SetC W BA L
  s1 : SetC W B1 U
  s2 : SetC W B2 M
  lc : w.heap.size + 2 < W.heap.size
  ll : BA < W.heap.size
  l1 : B1 < W.heap.size
  l2 : B2 < W.heap.size
  bel : Below w.heap.size w W
theorem HG.keep {w W W' : World} {BA B1 B2 n : Nat} {a b c L U M : CSet} (h : HG w BA B1 B2 a b c L U M W) (hb : Below n W W') (hn : n = W.heap.size) : HG w BA B1 B2 a b c L U M W' := by
  subst hn
  have hz := hb.size
  have h1 := h.lc
  exact ⟨h.sa.keep (by omega) hb, h.sb.keep (by omega) hb, h.sc.keep (by omega) hb, h.sl.keep h.ll hb, h.s1.keep h.l1 hb, h.s2.keep h.l2 hb, by omega, by have := h.ll; omega, by have := h.l1; omega, by have := h.l2; omega, next h.bel hb⟩
theorem HG.cells {w W : World} {BA B1 B2 : Nat} {a b c L U M : CSet} (h : HG w BA B1 B2 a b c L U M W) : SetC W w.heap.size a ∧ SetC W (w.heap.size + 1) b ∧ SetC W (w.heap.size + 2) c ∧ SetC W BA L ∧ SetC W B1 U ∧ SetC W B2 M := ⟨h.sa, h.sb, h.sc, h.sl, h.s1, h.s2⟩
set_option maxRecDepth 100000 in
set_option maxHeartbeats 20000000 in
theorem walkB (a b c : CSet) (w : World) (hT : Tab w) :
    Calls Tryd.prog 6 #[setV a, setV b, setV c] w fun e w' => e = .returned (.bool true) ∧ Below w.heap.size w w' := by
  have HT := Lib.hid hT
  clear hT
  have es := eq_self
  have ez := eq_zero
  have krg := fun w => range_p 0 255 w
  rw [all_set.1, all_set.2] at krg
  have KRG := Lib.hid krg
  clear krg
  have HBC := Lib.hid (BitVec.or_comm b c)
  have k1 := fun (w : World) => union_p a b w
  have K1 := Lib.hid k1
  clear k1
  have k2 := fun (w : World) => meet_p a b w
  have K2 := Lib.hid k2
  clear k2
  have k3 := fun (w : World) => union_p b a w
  rw [BitVec.or_comm b a] at k3
  have K3 := Lib.hid k3
  clear k3
  have k4 := fun (w : World) => meet_p b a w
  rw [BitVec.and_comm b a] at k4
  have K4 := Lib.hid k4
  clear k4
  have k5 := fun (w : World) => union_p (a ||| b) c w
  rw [BitVec.or_assoc a b c] at k5
  have K5 := Lib.hid k5
  clear k5
  have k6 := fun (w : World) => union_p b c w
  have K6 := Lib.hid k6
  clear k6
  have k7 := fun (w : World) => union_p a (b ||| c) w
  have K7 := Lib.hid k7
  clear k7
  have k8 := fun (w : World) => meet_p (a &&& b) c w
  rw [BitVec.and_assoc a b c] at k8
  have K8 := Lib.hid k8
  clear k8
  have k9 := fun (w : World) => meet_p b c w
  have K9 := Lib.hid k9
  clear k9
  have k10 := fun (w : World) => meet_p a (b &&& c) w
  have K10 := Lib.hid k10
  clear k10
  have k11 := fun (w : World) => meet_p a (b ||| c) w
  rw [dist1 a b c] at k11
  have K11 := Lib.hid k11
  clear k11
  have k12 := fun (w : World) => meet_p a c w
  have K12 := Lib.hid k12
  clear k12
  have k13 := fun (w : World) => union_p (a &&& b) (a &&& c) w
  have K13 := Lib.hid k13
  clear k13
  have k14 := fun (w : World) => union_p a (b &&& c) w
  rw [dist2 a b c] at k14
  have K14 := Lib.hid k14
  clear k14
  have k15 := fun (w : World) => union_p a c w
  have K15 := Lib.hid k15
  clear k15
  have k16 := fun (w : World) => meet_p (a ||| b) (a ||| c) w
  have K16 := Lib.hid k16
  clear k16
  have k17 := fun (w : World) => not_p a w
  have K17 := Lib.hid k17
  clear k17
  have k18 := fun (w : World) => not_p (~~~a) w
  rw [BitVec.not_not] at k18
  have K18 := Lib.hid k18
  clear k18
  have k19 := fun (w : World) => not_p (a ||| b) w
  rw [deM a b] at k19
  have K19 := Lib.hid k19
  clear k19
  have k20 := fun (w : World) => not_p b w
  have K20 := Lib.hid k20
  clear k20
  have k21 := fun (w : World) => meet_p (~~~a) (~~~b) w
  have K21 := Lib.hid k21
  clear k21
  have k22 := fun (w : World) => minus_p b a w
  have K22 := Lib.hid k22
  clear k22
  have k23 := fun (w : World) => meet_p b (~~~a) w
  have K23 := Lib.hid k23
  clear k23
  have k24 := fun (w : World) => union_p a (~~~a) w
  rw [compl1 a] at k24
  have K24 := Lib.hid k24
  clear k24
  have k25 := fun (w : World) => meet_p a (~~~a) w
  rw [compl2 a] at k25
  have K25 := Lib.hid k25
  clear k25
  have k26 := fun (w : World) => union_p a a w
  rw [BitVec.or_self] at k26
  have K26 := Lib.hid k26
  clear k26
  have k27 := fun (w : World) => meet_p a a w
  rw [BitVec.and_self] at k27
  have K27 := Lib.hid k27
  clear k27
  have k28 := fun (w : World) => union_p a (a &&& b) w
  rw [absorb1 a b] at k28
  have K28 := Lib.hid k28
  clear k28
  have k29 := fun (w : World) => meet_p a (a ||| b) w
  rw [absorb2 a b] at k29
  have K29 := Lib.hid k29
  clear k29
  clear HBC
  generalize a ||| (b ||| c) = X5 at *
  generalize a &&& (b &&& c) = X8 at *
  generalize (a &&& b) ||| (a &&& c) = X11 at *
  generalize (a ||| b) &&& (a ||| c) = X14 at *
  generalize ~~~a &&& ~~~b = X19 at *
  generalize b &&& ~~~a = X22 at *
  generalize b ||| c = X6 at *
  generalize b &&& c = X9 at *
  generalize a &&& c = X12 at *
  generalize a ||| c = X15 at *
  generalize a ||| b = U at *
  generalize a &&& b = M at *
  generalize ~~~a = NA at *
  generalize ~~~b = NB at *
  generalize BitVec.allOnes 256 = L at *
  have HA0 := Lib.hid (((SetAt.new w a).alloc (.cells (setC b) 24)).alloc (.cells (setC c) 24))
  have hb0 := (SetAt.new (w.alloc (.cells (setC a) 24)) b).alloc (.cells (setC c) 24)
  have hc0 := SetAt.new ((w.alloc (.cells (setC a) 24)).alloc (.cells (setC b) 24)) c
  have hB0 := (((Below.refl w.heap.size w).alloc (Nat.le_refl _) (.cells (setC a) 24)).alloc (by simp only [World.size_alloc]; omega) (.cells (setC b) 24)).alloc (by simp only [World.size_alloc]; omega) (.cells (setC c) 24)
  rw [World.size_alloc] at hb0
  rw [World.size_alloc, World.size_alloc] at hc0
  have HB0 := Lib.hid hb0
  have HC0 := Lib.hid hc0
  have HW0 := Lib.hid hB0
  clear hb0 hc0 hB0
  unfold setV setC at *
  rw [show (word 0#256 0 : Int) = 0 from rfl, show (word 0#256 1 : Int) = 0 from rfl, show (word 0#256 2 : Int) = 0 from rfl, show (word 0#256 3 : Int) = 0 from rfl] at K25
  go_enter Tryd.func6, Tryd.ntmps6
  go_wp2_with fail
  refine (KRG.out _).mono ?_
  rintro e w1 ⟨rfl, hb1⟩
  have HA1 := Lib.hid (HA0.out.below hb1 (by simp only [World.size_alloc]; omega))
  have HB1 := Lib.hid (HB0.out.below hb1 (by simp only [World.size_alloc]; omega))
  have HC1 := Lib.hid (HC0.out.below hb1 (by simp only [World.size_alloc]; omega))
  have HW1 := Lib.hid (next HW0.out hb1)
  have hl1 : w.heap.size + 2 < w1.heap.size := HC1.out.lt
  have HA2 := Lib.hid (HA1.out.alloc (.cells (setC L) 24))
  have HB2 := Lib.hid (HB1.out.alloc (.cells (setC L) 24))
  have HC2 := Lib.hid (HC1.out.alloc (.cells (setC L) 24))
  have HL2 := Lib.hid (SetAt.new w1 L)
  have HW2 := Lib.hid (HW1.out.alloc HW1.out.size (.cells (setC L) 24))
  clear hb1 HA0 HB0 HC0 HW0 HA1 HB1 HC1 HW1 KRG
  unfold setC at *
  go_wp2_with fail
  generalize hW : w1.alloc (.cells #[.int .u64 (word L 0 : Int), .int .u64 (word L 1 : Int), .int .u64 (word L 2 : Int), .int .u64 (word L 3 : Int)] 24) = W at *
  have hWs : w1.heap.size + 1 = W.heap.size := by rw [← hW, World.size_alloc]
  clear hW
  have HS := Lib.hid (⟨⟨HA2.out.cells, HB2.out.cells⟩, ⟨by omega, by omega⟩, (Below.refl _ _).drew⟩ : HR W w.heap.size (w.heap.size + 1) a b W.drew)
  go_cut [9, 10] from 2 to 2 (fun v5 v6 wx => ∃ B5 B6 : Nat, v5 = .pointer (some ⟨B5, 0, none⟩) ∧ v6 = .pointer (some ⟨B6, 0, none⟩) ∧ HR W w.heap.size (w.heap.size + 1) a b wx ∧ (B5 < wx.heap.size ∧ B6 < wx.heap.size) ∧ SetC wx B5 U ∧ SetC wx B6 M)
  case first =>
    go_region_held3 (fun w' => HR W w.heap.size (w.heap.size + 1) a b w') (first
        | with_reducible exact HR.set4 (by assumption) (by omega)
        | with_reducible exact HR.setA (by assumption) (by omega) (by omega)
        | with_reducible exact HR.keep (by assumption) (by assumption)
        | with_reducible exact HR.keep ((Below.refl _ _).alloc (Nat.le_refl _) _) (by assumption)
        | with_reducible exact HR.swap (by assumption) (by omega)
        | with_reducible exact HR.swap (by assumption) (by simp only [World.size_setCell]; omega)
        | with_reducible exact HR.swap2 (by assumption) (by omega)
        | exact HS.out) (first
        | (go_at_call 15; refine (K1.out _).mono ?_; rintro e v1 ⟨rfl, hb⟩
           have sz1 : W.heap.size ≤ v1.heap.size := Nat.le_trans (by first | exact Nat.le_refl _ | (simp; done) | (simp [World.size_alloc]; omega) | exact Nat.le_trans (Nat.le_succ _) (Nat.le_succ _) | exact Nat.le_succ _) hb.size
           first
             | (have z1 := later' hb (newB _ _ _) rfl; have z2 := later' hb (newC _ _ _) rfl; (try simp only [World.size_alloc] at z1); (try simp only [World.size_alloc] at z2); obtain ⟨⟨y0, y1, y2, y3⟩, ⟨x0, x1, x2, x3⟩, l1, m0, m1, m2, m3⟩ := zeros z1; obtain ⟨⟨u0, u1, u2, u3⟩, ⟨t0, t1, t2, t3⟩, l2, k0, k1, k2, k3⟩ := zeros z2)
             | (have z1 := later' hb (newA _ _) rfl; (try simp only [World.size_alloc] at z1); obtain ⟨⟨y0, y1, y2, y3⟩, ⟨x0, x1, x2, x3⟩, l1, m0, m1, m2, m3⟩ := zeros z1)
             | skip)
        | (go_at_call 25; refine (K2.out _).mono ?_; rintro e v2 ⟨rfl, hb2⟩
           have sz2 : W.heap.size ≤ v2.heap.size := by have := hb2.size; (try simp at this); omega
           try (have z1' := later' hb2 (by first | exact z1 | exact oldA z1 | exact oldA (oldA z1)) rfl; obtain ⟨⟨y0', y1', y2', y3'⟩, ⟨x0', x1', x2', x3'⟩, l1', m0', m1', m2', m3'⟩ := zeros z1'; clear y0 y1 y2 y3 x0 x1 x2 x3 m0 m1 m2 m3)
           try (have z2' := later' hb2 (by first | exact z2 | exact oldA z2 | exact oldA (oldA z2)) rfl; obtain ⟨⟨u0', u1', u2', u3'⟩, ⟨t0', t1', t2', t3'⟩, l2', k0', k1', k2', k3'⟩ := zeros z2'; clear u0 u1 u2 u3 t0 t1 t2 t3 k0 k1 k2 k3)
           first
             | (have z3 := later' hb2 (newB _ _ _) rfl; have z4 := later' hb2 (newC _ _ _) rfl; (try simp only [World.size_alloc] at z3); (try simp only [World.size_alloc] at z4); obtain ⟨⟨p0, p1, p2, p3⟩, ⟨q0, q1, q2, q3⟩, l3, j0, j1, j2, j3⟩ := zeros z3; obtain ⟨⟨r0, r1, r2, r3⟩, ⟨s0, s1, s2, s3⟩, l4, i0, i1, i2, i3⟩ := zeros z4)
             | (have z3 := later' hb2 (newA _ _) rfl; (try simp only [World.size_alloc] at z3); obtain ⟨⟨p0, p1, p2, p3⟩, ⟨q0, q1, q2, q3⟩, l3, j0, j1, j2, j3⟩ := zeros z3)
             | skip))
    all_goals
      go_wp2_with fail
      go_meet
      refine ⟨_, _, rfl, rfl, by with_reducible assumption, ⟨?_, ?_⟩, ?_, ?_⟩
      · first | omega | (simp only [World.size_setCell, World.size_alloc]; omega)
      · first | omega | (simp only [World.size_setCell, World.size_alloc]; omega)
      · refine setC_of ?_
        first
          | with_reducible exact newA _ _
          | with_reducible exact newB _ _ _
          | with_reducible exact newC _ _ _
          | with_reducible exact put_new _
          | (with_reducible refine oldA (put_at ?_); with_reducible assumption)
          | (with_reducible refine two_first ?_ ?_; (with_reducible assumption); omega)
      · refine setC_of ?_
        first
          | with_reducible exact newA _ _
          | with_reducible exact newB _ _ _
          | with_reducible exact newC _ _ _
          | with_reducible exact put_new _
          | (with_reducible refine oldA (put_at ?_); with_reducible assumption)
          | (with_reducible refine two_second ?_ ?_; (with_reducible assumption); omega)
  case rest =>
    obtain ⟨B5, B6, rfl, rfl, H1, ⟨l5, l6⟩, S5, S6⟩ := hcut
    have HX := Lib.hid (⟨(HA2.out.below H1.2.2 (by omega)).cells, (HB2.out.below H1.2.2 (by omega)).cells, (HC2.out.below H1.2.2 (by omega)).cells, (HL2.out.below H1.2.2 (by omega)).cells, S5, S6, by have := H1.2.2.size; omega, by have := H1.2.2.size; omega, l5, l6, next HW2.out H1.2.2⟩ : HG w w1.heap.size B5 B6 a b c L U M wc)
    clear H1 l5 l6 S5 S6 HA2 HB2 HC2 HL2 HW2 HS hWs hl1
    have ku : ∀ w : World, w = w := fun _ => rfl
    clear ku
    obtain ⟨⟨a0, a1, a2, a3⟩, ⟨b0, b1, b2, b3⟩, ⟨c0, c1, c2, c3⟩, ⟨l0, l1, l2, l3⟩, ⟨u0, u1, u2, u3⟩, ⟨m0, m1, m2, m3⟩⟩ := HX.out.cells
    go_wp2_with fail
    have ga0 := fun d os => cell_regrown a0 d os
    have ga1 := fun d os => cell_regrown a1 d os
    have ga2 := fun d os => cell_regrown a2 d os
    have ga3 := fun d os => cell_regrown a3 d os
    have gb0 := fun d os => cell_regrown b0 d os
    have gb1 := fun d os => cell_regrown b1 d os
    have gb2 := fun d os => cell_regrown b2 d os
    have gb3 := fun d os => cell_regrown b3 d os
    have gc0 := fun d os => cell_regrown c0 d os
    have gc1 := fun d os => cell_regrown c1 d os
    have gc2 := fun d os => cell_regrown c2 d os
    have gc3 := fun d os => cell_regrown c3 d os
    have gl0 := fun d os => cell_regrown l0 d os
    have gl1 := fun d os => cell_regrown l1 d os
    have gl2 := fun d os => cell_regrown l2 d os
    have gl3 := fun d os => cell_regrown l3 d os
    have gu0 := fun d os => cell_regrown u0 d os
    have gu1 := fun d os => cell_regrown u1 d os
    have gu2 := fun d os => cell_regrown u2 d os
    have gu3 := fun d os => cell_regrown u3 d os
    have gm0 := fun d os => cell_regrown m0 d os
    have gm1 := fun d os => cell_regrown m1 d os
    have gm2 := fun d os => cell_regrown m2 d os
    have gm3 := fun d os => cell_regrown m3 d os
    clear a0 a1 a2 a3 b0 b1 b2 b3 c0 c1 c2 c3 l0 l1 l2 l3 u0 u1 u2 u3 m0 m1 m2 m3
    refine wp_region_quiet_below (by kernel_rfl) (by kernel_rfl) ?_
    repeat (go_big_quiet_step ((first
      | (go_at_call 15; first | with_reducible exact Calls.regrown_of (K3.out _) | with_reducible exact Calls.regrown_of (K5.out _) | with_reducible exact Calls.regrown_of (K6.out _) | with_reducible exact Calls.regrown_of (K7.out _))
      | (go_at_call 25; first | with_reducible exact Calls.regrown_of (K4.out _) | with_reducible exact Calls.regrown_of (K8.out _) | with_reducible exact Calls.regrown_of (K9.out _) | with_reducible exact Calls.regrown_of (K10.out _)))))
    refine wpQuiet_nil ?_
    intro _ hw'
    obtain ⟨⟨dq, osq⟩, hw''⟩ := hw'
    subst hw''
    clear ga0 ga1 ga2 ga3 gb0 gb1 gb2 gb3 gc0 gc1 gc2 gc3 gl0 gl1 gl2 gl3 gu0 gu1 gu2 gu3 gm0 gm1 gm2 gm3
    replace HX := Lib.hid (HX.out.keep (below_regrown _ dq osq) rfl)
    generalize grow (redrawn wc dq) osq = w3 at *
    obtain ⟨⟨a0, a1, a2, a3⟩, ⟨b0, b1, b2, b3⟩, ⟨c0, c1, c2, c3⟩, ⟨l0, l1, l2, l3⟩, ⟨u0, u1, u2, u3⟩, ⟨m0, m1, m2, m3⟩⟩ := HX.out.cells
    go_wp2_with fail
    have ga0 := fun d os => cell_regrown a0 d os
    have ga1 := fun d os => cell_regrown a1 d os
    have ga2 := fun d os => cell_regrown a2 d os
    have ga3 := fun d os => cell_regrown a3 d os
    have gb0 := fun d os => cell_regrown b0 d os
    have gb1 := fun d os => cell_regrown b1 d os
    have gb2 := fun d os => cell_regrown b2 d os
    have gb3 := fun d os => cell_regrown b3 d os
    have gc0 := fun d os => cell_regrown c0 d os
    have gc1 := fun d os => cell_regrown c1 d os
    have gc2 := fun d os => cell_regrown c2 d os
    have gc3 := fun d os => cell_regrown c3 d os
    have gl0 := fun d os => cell_regrown l0 d os
    have gl1 := fun d os => cell_regrown l1 d os
    have gl2 := fun d os => cell_regrown l2 d os
    have gl3 := fun d os => cell_regrown l3 d os
    have gu0 := fun d os => cell_regrown u0 d os
    have gu1 := fun d os => cell_regrown u1 d os
    have gu2 := fun d os => cell_regrown u2 d os
    have gu3 := fun d os => cell_regrown u3 d os
    have gm0 := fun d os => cell_regrown m0 d os
    have gm1 := fun d os => cell_regrown m1 d os
    have gm2 := fun d os => cell_regrown m2 d os
    have gm3 := fun d os => cell_regrown m3 d os
    clear a0 a1 a2 a3 b0 b1 b2 b3 c0 c1 c2 c3 l0 l1 l2 l3 u0 u1 u2 u3 m0 m1 m2 m3
    refine wp_region_quiet_below (by kernel_rfl) (by kernel_rfl) ?_
    repeat (go_big_quiet_step ((first
      | (go_at_call 15; first | with_reducible exact Calls.regrown_of (K13.out _) | with_reducible exact Calls.regrown_of (K14.out _) | with_reducible exact Calls.regrown_of (K15.out _) | with_reducible exact Calls.regrown_of (K6.out _))
      | (go_at_call 25; first | with_reducible exact Calls.regrown_of (K9.out _) | with_reducible exact Calls.regrown_of (K11.out _) | with_reducible exact Calls.regrown_of (K12.out _) | with_reducible exact Calls.regrown_of (K16.out _)))))
    refine wpQuiet_nil ?_
    intro _ hw'
    obtain ⟨⟨dq, osq⟩, hw''⟩ := hw'
    subst hw''
    clear ga0 ga1 ga2 ga3 gb0 gb1 gb2 gb3 gc0 gc1 gc2 gc3 gl0 gl1 gl2 gl3 gu0 gu1 gu2 gu3 gm0 gm1 gm2 gm3
    replace HX := Lib.hid (HX.out.keep (below_regrown _ dq osq) rfl)
    generalize grow (redrawn w3 dq) osq = w4 at *
    obtain ⟨⟨a0, a1, a2, a3⟩, ⟨b0, b1, b2, b3⟩, ⟨c0, c1, c2, c3⟩, ⟨l0, l1, l2, l3⟩, ⟨u0, u1, u2, u3⟩, ⟨m0, m1, m2, m3⟩⟩ := HX.out.cells
    go_wp2_with fail
    refine (K17.out _).mono ?_
    rintro e w5 ⟨rfl, hb5⟩
    have HX5 := Lib.hid (HX.out.keep hb5 rfl)
    have HX6 := Lib.hid (HX5.out.keep ((Below.refl _ _).alloc (Nat.le_refl _) (.cells (setC NA) 24)) rfl)
    have HN := Lib.hid (SetAt.new w5 NA)
    clear hb5 HX a0 a1 a2 a3 b0 b1 b2 b3 c0 c1 c2 c3 l0 l1 l2 l3 u0 u1 u2 u3 m0 m1 m2 m3
    unfold setC at *
    go_wp2_with fail
    generalize w5.alloc (.cells #[.int .u64 (word NA 0 : Int), .int .u64 (word NA 1 : Int), .int .u64 (word NA 2 : Int), .int .u64 (word NA 3 : Int)] 24) = w6 at *
    obtain ⟨⟨a0, a1, a2, a3⟩, ⟨b0, b1, b2, b3⟩, ⟨c0, c1, c2, c3⟩, ⟨l0, l1, l2, l3⟩, ⟨u0, u1, u2, u3⟩, ⟨m0, m1, m2, m3⟩⟩ := HX6.out.cells
    obtain ⟨n0, n1, n2, n3⟩ := SetAt.cells HN.out
    have ga0 := fun d os => cell_regrown a0 d os
    have ga1 := fun d os => cell_regrown a1 d os
    have ga2 := fun d os => cell_regrown a2 d os
    have ga3 := fun d os => cell_regrown a3 d os
    have gb0 := fun d os => cell_regrown b0 d os
    have gb1 := fun d os => cell_regrown b1 d os
    have gb2 := fun d os => cell_regrown b2 d os
    have gb3 := fun d os => cell_regrown b3 d os
    have gc0 := fun d os => cell_regrown c0 d os
    have gc1 := fun d os => cell_regrown c1 d os
    have gc2 := fun d os => cell_regrown c2 d os
    have gc3 := fun d os => cell_regrown c3 d os
    have gl0 := fun d os => cell_regrown l0 d os
    have gl1 := fun d os => cell_regrown l1 d os
    have gl2 := fun d os => cell_regrown l2 d os
    have gl3 := fun d os => cell_regrown l3 d os
    have gu0 := fun d os => cell_regrown u0 d os
    have gu1 := fun d os => cell_regrown u1 d os
    have gu2 := fun d os => cell_regrown u2 d os
    have gu3 := fun d os => cell_regrown u3 d os
    have gm0 := fun d os => cell_regrown m0 d os
    have gm1 := fun d os => cell_regrown m1 d os
    have gm2 := fun d os => cell_regrown m2 d os
    have gm3 := fun d os => cell_regrown m3 d os
    have gn0 := fun d os => cell_regrown n0 d os
    have gn1 := fun d os => cell_regrown n1 d os
    have gn2 := fun d os => cell_regrown n2 d os
    have gn3 := fun d os => cell_regrown n3 d os
    clear a0 a1 a2 a3 b0 b1 b2 b3 c0 c1 c2 c3 l0 l1 l2 l3 u0 u1 u2 u3 m0 m1 m2 m3 n0 n1 n2 n3
    refine wp_region_quiet_below (by kernel_rfl) (by kernel_rfl) ?_
    repeat (go_big_quiet_step ((first
      | (go_at_call 15; first | with_reducible exact Calls.regrown_of (K24.out _))
      | (go_at_call 25; first | with_reducible exact Calls.regrown_of (K21.out _) | with_reducible exact Calls.regrown_of (K23.out _) | with_reducible exact Calls.regrown_of (K25.out _))
      | (go_at_call 26; first | with_reducible exact Calls.regrown_of (K18.out _) | with_reducible exact Calls.regrown_of (K19.out _) | with_reducible exact Calls.regrown_of (K20.out _))
      | (go_at_call 27; first | with_reducible exact Calls.regrown_of (K22.out _)))))
    refine wpQuiet_nil ?_
    intro _ hw'
    obtain ⟨⟨dq, osq⟩, hw''⟩ := hw'
    subst hw''
    clear ga0 ga1 ga2 ga3 gb0 gb1 gb2 gb3 gc0 gc1 gc2 gc3 gl0 gl1 gl2 gl3 gu0 gu1 gu2 gu3 gm0 gm1 gm2 gm3 gn0 gn1 gn2 gn3
    have HX7 := Lib.hid (HX6.out.keep (below_regrown _ dq osq) rfl)
    clear HX6 HX5 HN
    generalize grow (redrawn w6 dq) osq = w7 at *
    obtain ⟨⟨a0, a1, a2, a3⟩, ⟨b0, b1, b2, b3⟩, ⟨c0, c1, c2, c3⟩, ⟨l0, l1, l2, l3⟩, ⟨u0, u1, u2, u3⟩, ⟨m0, m1, m2, m3⟩⟩ := HX7.out.cells
    go_wp2_with fail
    have ga0 := fun d os => cell_regrown a0 d os
    have ga1 := fun d os => cell_regrown a1 d os
    have ga2 := fun d os => cell_regrown a2 d os
    have ga3 := fun d os => cell_regrown a3 d os
    have gb0 := fun d os => cell_regrown b0 d os
    have gb1 := fun d os => cell_regrown b1 d os
    have gb2 := fun d os => cell_regrown b2 d os
    have gb3 := fun d os => cell_regrown b3 d os
    have gc0 := fun d os => cell_regrown c0 d os
    have gc1 := fun d os => cell_regrown c1 d os
    have gc2 := fun d os => cell_regrown c2 d os
    have gc3 := fun d os => cell_regrown c3 d os
    have gl0 := fun d os => cell_regrown l0 d os
    have gl1 := fun d os => cell_regrown l1 d os
    have gl2 := fun d os => cell_regrown l2 d os
    have gl3 := fun d os => cell_regrown l3 d os
    have gu0 := fun d os => cell_regrown u0 d os
    have gu1 := fun d os => cell_regrown u1 d os
    have gu2 := fun d os => cell_regrown u2 d os
    have gu3 := fun d os => cell_regrown u3 d os
    have gm0 := fun d os => cell_regrown m0 d os
    have gm1 := fun d os => cell_regrown m1 d os
    have gm2 := fun d os => cell_regrown m2 d os
    have gm3 := fun d os => cell_regrown m3 d os
    clear a0 a1 a2 a3 b0 b1 b2 b3 c0 c1 c2 c3 l0 l1 l2 l3 u0 u1 u2 u3 m0 m1 m2 m3
    have HCS := Lib.hid (fun d os => Calls.regrown_of (d := d) (os := os) (shown_p _ ((HT.out.below HX7.out.bel).below (below_regrown w7 d os))))
    refine wp_region_quiet_below (by kernel_rfl) (by kernel_rfl) ?_
    repeat (go_big_quiet_step ((first
      | (go_at_call 15; first | with_reducible exact Calls.regrown_of (K26.out _) | with_reducible exact Calls.regrown_of (K28.out _))
      | (go_at_call 25; first | with_reducible exact Calls.regrown_of (K27.out _) | with_reducible exact Calls.regrown_of (K29.out _))
      | (go_at_call 9; exact HCS.out _ _))))
    refine wpQuiet_nil ?_
    intro _ hw'
    obtain ⟨⟨dq, osq⟩, hw''⟩ := hw'
    subst hw''
    clear ga0 ga1 ga2 ga3 gb0 gb1 gb2 gb3 gc0 gc1 gc2 gc3 gl0 gl1 gl2 gl3 gu0 gu1 gu2 gu3 gm0 gm1 gm2 gm3
    go_wp2_with fail
    go_ret
    exact ⟨rfl, next HX7.out.bel (below_regrown _ _ _)⟩


theorem walk (cs cd ce : Array Value) (w : World) (hT : Tab w) (hz : cs.size = [22, 22, 22, 22].length)
    (hc : ∀ (i : Nat) (u : TypeId) (x : Value), [22, 22, 22, 22][i]? = some u → cs[i]? = some x → Cell.okWide Tryd.prog w .any w.heap.size u x)
    (hy : cd.size = [22, 22, 22, 22].length)
    (hd : ∀ (i : Nat) (u : TypeId) (x : Value), [22, 22, 22, 22][i]? = some u → cd[i]? = some x → Cell.okWide Tryd.prog w .any w.heap.size u x)
    (hx : ce.size = [22, 22, 22, 22].length)
    (he : ∀ (i : Nat) (u : TypeId) (x : Value), [22, 22, 22, 22][i]? = some u → ce[i]? = some x → Cell.okWide Tryd.prog w .any w.heap.size u x) :
    Calls Tryd.prog 6 #[.agg cs, .agg cd, .agg ce] w fun e w' => e = .returned (.bool true) ∧ Below w.heap.size w w' := by
  obtain ⟨s, hs⟩ := set_of hz hc
  obtain ⟨t, ht⟩ := set_of hy hd
  obtain ⟨r, hr⟩ := set_of hx he
  rw [hs, ht, hr]
  exact walkB s t r w hT

theorem own : ownKnob Tryd.prog.godebug = none := by kernel_rfl
theorem laidOut : laidOutB Tryd.prog = true := by kernel_rfl
abbrev laidL : List (String × DataW Unit) := [("math/bits.deBruijn64tab", Rows.laid_math_bits_deBruijn64tab)]

set_option maxRecDepth 100000 in
theorem lifted (os : Os) (started : os.Started) (H : Type) (enc : TypeId × Value → H) :
    ReturnsInHanded {} Tryd.checked os 6 .any (fun w args => (Rows.classesLawsSpec.pre enc Tryd.prog Tryd.f6 [] false w args ∧ laidMetH Tryd.prog laidL w) ∧ sizedMet enc Tryd.prog Tryd.f6 (OpenSpec.ofChange Rows.classesLawsSpec) false w args) (Rows.classesLawsSpec.post enc Tryd.prog Tryd.f6 false true false false) := by
  refine returnsInHanded_of_change_and (C := Tryd.checked) (X := fun w _ => laidMetH Tryd.prog laidL w) (fun _ _ _ hh h => h.of_heap hh) own started (by kernel_rfl) Tryd.func6
    (ChangeSpec.witness_shaped (enc := enc) (C := Tryd.checked) (os := os) (X := fun w _ => laidMetH Tryd.prog laidL w) false (World.doorLaid Tryd.prog 400 os) #[.agg #[.int .u64 0, .int .u64 0, .int .u64 0, .int .u64 0], .agg #[.int .u64 0, .int .u64 0, .int .u64 0, .int .u64 0], .agg #[.int .u64 0, .int .u64 0, .int .u64 0, .int .u64 0]] 8 rfl (World.shaped_of_RefB (by kernel_rfl) (by kernel_rfl)) (by kernel_rfl) (by kernel_rfl) (by kernel_rfl) (door_met os _)) ?_
  intro W base args ds gs before hval0 hW _ _ hL _
  have hT : Tab W := tab_of_laid hL
  have hval : ∀ (j : Nat) t v, Tryd.f6.params[j]? = some t → args[j]? = some v → Value.okWide Tryd.prog W .any base t v := hval0
  have hW' := hW
  obtain ⟨p, q, hA0, hV, rfl, hfz, hnd⟩ := hW
  have hA : DataW.TrodAll enc Tryd.prog W 0 (fun _ => true) true Tryd.f6.params.toList args.toList ds p := hA0
  rw [Tryd.params6] at hA hval
  obtain ⟨v0, vs0, d0, ds0, p0, q0, hargs, rfl, rfl, k0, r0⟩ := trodAll_cons hA
  obtain ⟨v1, vs1, d1, ds1, p1, q1, rfl, rfl, rfl, k1, r1⟩ := trodAll_cons r0
  obtain ⟨v2, vs2, d2, ds2, p2, q2, rfl, rfl, rfl, k2, r2⟩ := trodAll_cons r1
  obtain ⟨rfl, rfl, rfl⟩ := trodAll_nil r2
  obtain rfl : args = #[v0, v1, v2] := by cases args; simp_all
  obtain ⟨rfl, rfl⟩ := trodVars_none hV
  have lt0 : ∀ x ∈ p0, x.block < W.heap.size := by obtain ⟨m, hm⟩ := k0; exact DataW.trod_lt m _ _ _ hm
  have lt1 : ∀ x ∈ p1, x.block < W.heap.size := by obtain ⟨m, hm⟩ := k1; exact DataW.trod_lt m _ _ _ hm
  have lt2 : ∀ x ∈ p2, x.block < W.heap.size := by obtain ⟨m, hm⟩ := k2; exact DataW.trod_lt m _ _ _ hm
  obtain ⟨c0, rfl, z0, g0⟩ := arg_agg (ts := [22, 22, 22, 22]) (by kernel_rfl) (by kernel_rfl) (by kernel_rfl) (hval 0 24 v0 rfl rfl)
  obtain ⟨c1, rfl, z1, g1⟩ := arg_agg (ts := [22, 22, 22, 22]) (by kernel_rfl) (by kernel_rfl) (by kernel_rfl) (hval 1 24 v1 rfl rfl)
  obtain ⟨c2, rfl, z2, g2⟩ := arg_agg (ts := [22, 22, 22, 22]) (by kernel_rfl) (by kernel_rfl) (by kernel_rfl) (hval 2 24 v2 rfl rfl)
  clear hA0 hval0
  refine (walk c0 c1 c2 W hT z0 g0 z1 g1 z2 g2).mono fun e W' ⟨he, bel⟩ => ?_
  subst he
  exact ⟨_, rfl, _, _, _, [], _, [], hW', trodAll_mk1 (shut_bool Tryd.underlying4 _), (trodAll_cons_mk (Below.trod laidOut (by kernel_rfl) (of_decide_eq_true (by kernel_rfl)) k0 bel lt0) (trodAll_cons_mk (Below.trod laidOut (by kernel_rfl) (of_decide_eq_true (by kernel_rfl)) k1 bel lt1) (trodAll_cons_mk (Below.trod laidOut (by kernel_rfl) (of_decide_eq_true (by kernel_rfl)) k2 bel lt2) trodAll_mk0))), rfl, bel.frame _, fun h => by cases h⟩

theorem over : Rows.classesLawsRow.holds Tryd.pinned (OpenSpec.ofChange Rows.classesLawsSpec) :=
  OpenClaim.holds_of_wide 6 Tryd.f6 rfl rfl rfl rfl rfl rfl rfl ⟨rfl, rfl, rfl, rfl, rfl⟩ rfl rfl rfl rfl rfl (by kernel_rfl) Tryd.func6 (by kernel_rfl)
    (of_decide_eq_true (by kernel_rfl)) (by unfold Func.isWrapper; first | (rw [if_pos (by decide +kernel)]; kernel_rfl) | (rw [if_neg (by decide +kernel)]; exact ⟨rfl, rfl⟩))
    (fun os started H enc _ => lifted os started H enc)

theorem proved : Rows.ClassesLawsCardSaid :=
  Claim7.holds_tied_plain_at .later [] [.data] true (true, "22bfa03ded28fcdf6dce186b205dc0d6516f7b640c39f0a6a20e7c48906351c0") false
    over (fun _ h => by cases h) (by kernel_rfl) (fun _ h => by cases h) classesLaws_row_tie rfl ⟨rfl, rfl⟩ (by kernel_rfl) rfl
    (fun f fn hf hfn => by
      obtain rfl : f = 6 := Option.some.inj ((show Tryd.prog.funcNamed "dragnet/dragnetlaw03.ClassesLaws" = some 6 by kernel_rfl).symm.trans hf) |>.symm
      obtain rfl : fn = Tryd.f6 := (Option.some.inj (Tryd.func6.symm.trans hfn)).symm
      exact ⟨by kernel_rfl, fun j t ht => by
        rw [Tryd.params6] at ht
        have hm : t ∈ ([24, 24, 24] : List Nat) := by simpa using Array.mem_of_getElem? ht
        have hall : (([24, 24, 24] : List Nat).all fun u => !Tryd.prog.wantsStandIn u) = true := by kernel_rfl
        exact (show Tryd.prog.wantsStandIn t = false by simpa using List.all_eq_true.1 hall t hm)⟩)
    (by kernel_rfl)
#print axioms proved
end Go.Proofs.YtooiegejchcbhaaDoor.classesLaws
