/- Texts that the claims share, part 2. -/
import Derived.Test.YtpjllppbpnkemaaMg1
import Derived.Deep.RegionHeld3
import Derived.Shelf.Abstract
import Derived.Lib.QuietBelow
import Derived.BigQuiet
import Derived.Deep.RegionLawGrows
import Derived.Deep.AppendLies
import Derived.Lib.SliceRun
import Derived.Laws.EntriesVeiled

/- Layer 3's reference: Of. -/
namespace Go.Proofs.Ytpjllppbpnkemaa
open Go.RowKit

theorem Row.byteAt {w : World} {v : Value} {l : List UInt8} (h : Row w 1 v l.length (bcells l)) {k : Nat} (hk : k < l.length) :
    ∃ g o cap, v = .slice (some ⟨g, o, none⟩) l.length cap ∧ g < w.heap.size ∧ w.cell? ⟨g, o + k, none⟩ = some (.int .u8 (l[k].toNat : Int)) := by
  obtain ⟨_, _, a, cap, rfl, _, h2⟩ := h
  rcases h2 with h0 | ⟨g, o, rfl, hc⟩
  · omega
  · have e := hc k (by omega)
    have e2 : (bcells l)[k]? = some (.int .u8 (l[k].toNat : Int)) := by
      unfold bcells; rw [List.getElem?_map, List.getElem?_eq_getElem hk]; rfl
    exact ⟨g, o, cap, rfl, World.block_lt_of_cell? w _ (e.trans e2), e.trans e2⟩
theorem ofL_take {l : List UInt8} {k : Nat} (hk : k < l.length) : ofL (l.take (k + 1)) = ofL (l.take k) ||| bit l[k].toNat := by
  rw [List.take_succ_eq_append_getElem hk, ofL_snoc]

set_option maxRecDepth 100000 in
set_option maxHeartbeats 1000000 in
theorem of_r (v : Value) (l : List UInt8) (w : World) (h : Row w 1 v l.length (bcells l)) :
    Calls Try.prog 63 #[v] w fun e w' => e = .returned (setV (ofL l)) ∧ Below w.heap.size w w' := by
  obtain ⟨a, cap, hv⟩ : ∃ a cap, v = .slice a l.length cap := by obtain ⟨_, _, a, cap, e, _⟩ := h; exact ⟨a, cap, e⟩
  have hmax : l.length ≤ maxLen := h.2.1
  unfold maxLen at hmax
  have HR := Lib.hid h
  have HV := Lib.hid hv
  have a0 := (SetAt.zero w).alloc (.cells #[.int .u64 0, .int .u64 0, .int .u64 0, .int .u64 0] 61)
  have a1 := SetAt.zero (w.alloc (.cells #[.int .u64 0, .int .u64 0, .int .u64 0, .int .u64 0] 61))
  rw [World.size_alloc] at a1
  have hB0 : Below w.heap.size w ((w.alloc (.cells #[.int .u64 0, .int .u64 0, .int .u64 0, .int .u64 0] 61)).alloc (.cells #[.int .u64 0, .int .u64 0, .int .u64 0, .int .u64 0] 61)) := ((Below.refl _ _).alloc (Nat.le_refl _) _).alloc (by simp) _
  have A0 := Lib.hid a0
  have A1 := Lib.hid a1
  have HB0 := Lib.hid hB0
  subst hv
  clear a0 a1 hB0 h
  go_enter Try.func63, Try.ntmps63
  go_wp2_with fail
  go_loopw [4] (fun iv wr => ∃ k : Nat, k ≤ l.length ∧ iv = .int .i64 (k : Nat) ∧ SetAt wr w.heap.size 0#256 ∧ SetAt wr (w.heap.size + 1) (ofL (l.take k)) ∧ Below w.heap.size w wr) (fun iv _ => l.length - (intOf iv).toNat)
  case atStart => exact ⟨0, by omega, rfl, A0.out, A1.out, HB0.out⟩
  case round =>
    obtain ⟨k, hk, rfl, h0, h1, hB⟩ := hrel
    by_cases hlt : k < l.length
    · obtain ⟨g, o, cap', hv', hg, hcell⟩ := Row.byteAt HR.out hlt
      cases hv'
      have hcell' := (hB.cell (p := ⟨g, o + k, none⟩) hg).trans hcell
      have i1 : (0 : Int) ≤ (k : Int) := by omega
      have i2 : (k : Int) < (l.length : Int) := by omega
      have hlb : l[k].toNat < 256 := l[k].toNat_lt
      have l1 := h1.lt
      have l0 := h0.lt
      obtain ⟨c0, c1, c2, c3⟩ := h1.cells
      have hz := hB.size
      have HOF := Lib.hid (ofL_take hlt)
      generalize l[k] = x at *
      clear hcell
      go_wp2_with fail
      go_region_with (first
        | (go_at_call 77; refine (add_r (ofL (l.take k)) x.toNat hlb _).mono ?_; rintro e w2 ⟨rfl, hb2⟩; rw [← HOF.out]; unfold setV setC; have k1 := h1.after hb2 l1; have k0 := h0.after hb2 l0; obtain ⟨f0, f1, f2, f3⟩ := k1.free; obtain ⟨d0, d1, d2, d3⟩ := k1.cells; have HB2 := Lib.hid (next hB.drew hb2); clear hb2))
      all_goals
        clear f0 f1 f2 f3 d0 d1 d2 d3 c0 c1 c2 c3
        go_wp2_with fail
        refine ⟨⟨k + 1, by omega, by go_num, k0.other (by omega) _, k1.put _, below_put HB2.out (by omega) _⟩, by simp [intOf]; omega⟩
    · obtain rfl : l.length = k := by omega
      rw [List.take_length] at h1
      obtain ⟨c0, c1, c2, c3⟩ := h1.cells
      obtain ⟨d0, d1, d2, d3⟩ := h0.cells
      obtain ⟨f0, f1, f2, f3⟩ := h0.free
      go_wp2_with fail
      obtain ⟨q0, q1, q2, q3⟩ := (h0.put (ofL l)).cells
      show bodyPost _ _ _ _ _ (putSet wr w.heap.size (ofL l))
      exact bodyPost_ret (v := .agg #[.int .u64 _, .int .u64 _, .int .u64 _, .int .u64 _]) (by simp [results, Try.results63, go_sem, q0, q1, q2, q3]) rfl ⟨rfl, below_put hB (Nat.le_refl _) _⟩

end Go.Proofs.Ytpjllppbpnkemaa

/- Layer 3's reference: Range, All, Not, Sub, List, Of. -/
namespace Go.Proofs.Ytpjllppbpnkemaa
open Go.RowKit

set_option maxRecDepth 100000 in
set_option maxHeartbeats 1000000 in
theorem range_r (l h : Int) (w : World) :
    Calls Try.prog 76 #[.int .i64 l, .int .i64 h] w fun e w' => e = .returned (.tuple #[setV (rangeS l h), .int .i64 (rangeE l h)]) ∧ Below w.heap.size w w' := by
  have a0 := SetAt.zero w
  have hB0 : Below w.heap.size w (w.alloc (.cells #[.int .u64 0, .int .u64 0, .int .u64 0, .int .u64 0] 61)) := (Below.refl _ _).alloc (Nat.le_refl _) _
  have A0 := Lib.hid a0
  have HB0 := Lib.hid hB0
  clear a0 hB0
  by_cases hbad : l < 0 ∨ 255 < h ∨ h < l
  · have e1 : rangeE l h = 7 := by unfold rangeE; rw [if_pos hbad]
    have e2 : rangeS l h = 0#256 := by unfold rangeS; rw [e1]; rfl
    rw [e1, e2]; clear e1 e2
    have fin : ∀ W a, SetAt W w.heap.size 0#256 → Below w.heap.size w W → a.tmps[4]?.getD undef = .pointer (some ⟨w.heap.size, 0, none⟩) → a.tmps[5]?.getD undef = .int .i64 7 → a.defers = [] →
        bodyPost Try.prog Try.f76 (fun e w' => e = .returned (.tuple #[setV 0#256, .int .i64 7]) ∧ Below w.heap.size w w') .ret a W := by
      intro W a hW hB h4 h5 hd
      obtain ⟨q0, q1, q2, q3⟩ := hW.cells
      exact bodyPost_ret (v := .tuple #[setV 0#256, .int .i64 7]) (by simp [results, Try.results76, go_sem, h4, h5, q0, q1, q2, q3, setV, setC]) hd ⟨rfl, hB⟩
    have FIN := Lib.hid fin
    clear fin
    obtain ⟨f0, f1, f2, f3⟩ := A0.out.free
    by_cases g1 : l < 0
    · clear hbad
      go_enter Try.func76, Try.ntmps76
      go_wp2_with fail
      exact FIN.out _ _ A0.out HB0.out rfl rfl rfl
    · by_cases g2 : 255 < h
      · clear hbad
        go_enter Try.func76, Try.ntmps76
        go_wp2_with fail
        exact FIN.out _ _ A0.out HB0.out rfl rfl rfl
      · have g3 : h < l := by omega
        clear hbad
        go_enter Try.func76, Try.ntmps76
        go_wp2_with fail
        exact FIN.out _ _ A0.out HB0.out rfl rfl rfl
  · have e1 : rangeE l h = 0 := by unfold rangeE; rw [if_neg hbad]
    have e2 : rangeS l h = spanS l (h + 1) := by unfold rangeS; rw [e1]; rfl
    rw [e1, e2]; clear e1 e2
    obtain ⟨l', rfl⟩ : ∃ l' : Nat, l = l' := ⟨l.toNat, by omega⟩
    obtain ⟨h', rfl⟩ : ∃ h' : Nat, h = h' := ⟨h.toNat, by omega⟩
    have g1 : l' ≤ h' := by omega
    have g2 : h' ≤ 255 := by omega
    have t1 : ¬ (l' : Int) < 0 := by omega
    have t2 : ¬ (255 : Int) < (h' : Int) := by omega
    have t3 : ¬ h' < l' := by omega
    clear hbad
    have a1 := SetAt.zero (w.alloc (.cells #[.int .u64 0, .int .u64 0, .int .u64 0, .int .u64 0] 61))
    rw [World.size_alloc] at a1
    have A1 := Lib.hid a1
    clear a1
    go_enter Try.func76, Try.ntmps76
    go_wp2_with fail
    go_loopw [7] (fun i wr => ∃ k : Nat, l' ≤ k ∧ k ≤ h' + 1 ∧ i = .int .i64 (k : Nat) ∧ SetAt wr w.heap.size 0#256 ∧ SetAt wr (w.heap.size + 1) (spanS l' k) ∧ Below w.heap.size w wr) (fun i _ => h' + 1 - (intOf i).toNat)
    case atStart => exact ⟨l', by omega, by omega, rfl, A0.out.alloc _, by rw [span_none]; exact A1.out, HB0.out.alloc (by simp) _⟩
    case round =>
      obtain ⟨k, hk0, hk, rfl, h0, h1, hB⟩ := hrel
      have l0 := h0.lt
      have l1 := h1.lt
      have hz := hB.size
      by_cases hlt : k ≤ h'
      · have i0 : (0 : Int) ≤ (k : Int) := by omega
        have i1 : (k : Int) ≤ 255 := by omega
        obtain ⟨d0, d1, d2, d3⟩ := h1.cells
        go_wp2_with fail
        refine (add_r (spanS l' k) k (by omega) _).mono ?_
        rintro e w1 ⟨rfl, hb1⟩
        clear d0 d1 d2 d3
        have h0' := h0.below hb1 l0
        have h1' := h1.below hb1 l1
        obtain ⟨d0, d1, d2, d3⟩ := h1'.cells
        obtain ⟨f0, f1, f2, f3⟩ := h1'.free
        have hB1 := Lib.hid (next hB hb1)
        clear hb1
        unfold setV setC
        go_wp2_with fail
        refine ⟨?_, by simp [intOf]; omega⟩
        exact ⟨k + 1, by omega, by omega, by go_num, h0'.other (by omega) _, by rw [show ((k + 1 : Nat) : Int) = (k : Int) + 1 from rfl, span_succ (by omega) (by omega)]; exact h1'.put _, below_put hB1.out (by omega) _⟩
      · obtain rfl : k = h' + 1 := by omega
        rw [show ((h' + 1 : Nat) : Int) = (h' : Int) + 1 from rfl] at h1
        obtain ⟨S, hS⟩ : ∃ S, S = spanS (l' : Int) ((h' : Int) + 1) := ⟨_, rfl⟩
        rw [← hS] at h1
        have HS := Lib.hid hS
        clear hS
        obtain ⟨d0, d1, d2, d3⟩ := h1.cells
        obtain ⟨e0, e1, e2, e3⟩ := h0.cells
        obtain ⟨f0, f1, f2, f3⟩ := h0.free
        go_wp2_with fail
        obtain ⟨q0, q1, q2, q3⟩ := (h0.put S).cells
        show bodyPost _ _ _ _ _ (putSet wr w.heap.size S)
        exact bodyPost_ret (v := .tuple #[setV S, .int .i64 0]) (by simp [results, Try.results76, go_sem, q0, q1, q2, q3, setV, setC]) rfl ⟨by rw [HS.out], below_put hB (Nat.le_refl _) _⟩

end Go.Proofs.Ytpjllppbpnkemaa

/- Layer 3's reference: All, Not, Sub, List, Of. -/
namespace Go.Proofs.Ytpjllppbpnkemaa
open Go.RowKit

def fullS : CSet := BitVec.allOnes 256
theorem rangeS_all : rangeS 0 255 = fullS := by
  have e : rangeE 0 255 = 0 := by decide
  unfold rangeS fullS
  rw [if_pos e]
  apply set_ext; intro b hb
  rw [spanS, hasB_ofF _ _ hb]
  have : hasB (BitVec.allOnes 256) b = true := by simp only [hasB, BitVec.getLsbD_allOnes, hb, decide_true]
  rw [this, decide_eq_true_iff]
  omega
theorem hasB_full (b : Nat) (hb : b < 256) : hasB fullS b = true := by simp only [fullS, hasB, BitVec.getLsbD_allOnes, hb, decide_true]
set_option maxRecDepth 100000 in
set_option maxHeartbeats 1000000 in
theorem all_r (w : World) : Calls Try.prog 59 #[] w fun e w' => e = .returned (setV fullS) ∧ Below w.heap.size w w' := by
  have a0 := SetAt.zero w
  have hB0 : Below w.heap.size w (w.alloc (.cells #[.int .u64 0, .int .u64 0, .int .u64 0, .int .u64 0] 61)) := (Below.refl _ _).alloc (Nat.le_refl _) _
  have A0 := Lib.hid a0
  have HB0 := Lib.hid hB0
  clear a0 hB0
  go_enter Try.func59, Try.ntmps59
  go_wp2_with fail
  refine (range_r 0 255 _).mono ?_
  rintro e w1 ⟨rfl, hb1⟩
  rw [rangeS_all]
  have h0 := A0.out.below hb1 (by simp)
  have h1 := (h0.put fullS).alloc (.cells (setC fullS) 61)
  have lz := h0.lt
  obtain ⟨d0, d1, d2, d3⟩ := h0.cells
  obtain ⟨f0, f1, f2, f3⟩ := h0.free
  have hz := hb1.size
  have HB := Lib.hid (next HB0.out hb1)
  have H1 := Lib.hid h1
  clear hb1 h1 h0
  unfold setV setC
  go_wp2_with fail
  obtain ⟨q0, q1, q2, q3⟩ := H1.out.cells
  show bodyPost _ _ _ _ _ ((putSet w1 w.heap.size fullS).alloc (.cells (setC fullS) 61))
  exact bodyPost_ret (v := .agg #[.int .u64 _, .int .u64 _, .int .u64 _, .int .u64 _]) (by simp [results, Try.results59, go_sem, q0, q1, q2, q3]) rfl ⟨rfl, (below_put HB.out (Nat.le_refl _) _).alloc (by simp [putSet, World.size_setCell]; omega) _⟩

end Go.Proofs.Ytpjllppbpnkemaa

/- classes.each. -/
namespace Go.Proofs.Ytpjllppbpnkemaa
open Go.RowKit Go.Shelf

theorem hasB_and (s t : CSet) (b : Nat) : hasB (s &&& t) b = (hasB s b && hasB t b) := by simp [hasB]
theorem hasB_not (s : CSet) (b : Nat) (h : b < 256) : hasB (~~~s) b = !hasB s b := by simp [hasB, h]

theorem SetAt.wordAt {w : World} {B k : Nat} {s : CSet} (h : SetAt w B s) (hk : k < 4) : w.cell? ⟨B, k, none⟩ = some (.int .u64 (word s k : Int)) := by
  obtain ⟨c0, c1, c2, c3⟩ := h.cells
  match k, hk with
  | 0, _ => exact c0
  | 1, _ => exact c1
  | 2, _ => exact c2
  | 3, _ => exact c3
theorem SetAt.freeAt {w : World} {B k : Nat} {s : CSet} (h : SetAt w B s) (hk : k < 4) : w.frozen? ⟨B, k, none⟩ = false := by
  obtain ⟨c0, c1, c2, c3⟩ := h.free
  match k, hk with
  | 0, _ => exact c0
  | 1, _ => exact c1
  | 2, _ => exact c2
  | 3, _ => exact c3
theorem SetAt.setw {w : World} {B k v : Nat} {s s' : CSet} (h : SetAt w B s) (hk : k < 4) (hv : word s' k = v) (ho : ∀ i, i < 4 → i ≠ k → word s' i = word s i) : SetAt (w.setCell ⟨B, k, none⟩ (.int .u64 (v : Int))) B s' := by
  unfold SetAt
  rw [heap_setCell_at _ h]
  subst hv
  match k, hk with
  | 0, _ => simp [setC, ho 1 (by decide) (by decide), ho 2 (by decide) (by decide), ho 3 (by decide) (by decide)]
  | 1, _ => simp [setC, ho 0 (by decide) (by decide), ho 2 (by decide) (by decide), ho 3 (by decide) (by decide)]
  | 2, _ => simp [setC, ho 0 (by decide) (by decide), ho 1 (by decide) (by decide), ho 3 (by decide) (by decide)]
  | 3, _ => simp [setC, ho 0 (by decide) (by decide), ho 1 (by decide) (by decide), ho 2 (by decide) (by decide)]
theorem SetAt.off {w : World} {B B' k : Nat} {s : CSet} (h : SetAt w B s) (hB : B ≠ B') (v : Value) : SetAt (w.setCell ⟨B', k, none⟩ v) B s := by
  unfold SetAt
  rw [Below.heap_setCell _ _ _ _ hB]
  exact h

set_option maxRecDepth 100000 in
set_option maxHeartbeats 1000000 in
theorem each_p (fid : FuncId) (hent : ∀ args w, (callFunc fid args).run Try.prog w = .ok (.enter fid args) w) (F : Nat → Nat → Nat) (s t : CSet) (M : Nat → CSet) (h0 : M 0 = s) (hk : ∀ k, k < 4 → word (M k) k = word s k ∧ word (M (k + 1)) k = F (word s k) (word t k) ∧ ∀ i, i < 4 → i ≠ k → word (M (k + 1)) i = word (M k) i)
    (hf : ∀ k, k < 4 → ∀ w, Calls Try.prog fid #[.int .u64 (word s k : Int), .int .u64 (word t k : Int)] w fun e w' => e = .returned (.int .u64 (F (word s k) (word t k) : Int)) ∧ w = w') (w : World) :
    Calls Try.prog 73 #[setV s, setV t, .func (.func fid) #[] #[]] w fun e w' => e = .returned (setV (M 4)) ∧ Below w.heap.size w w' := by
  have a0 := ((SetAt.new w s).alloc (.cells (setC t) 61)).alloc (.cells #[.int .u64 0, .int .u64 0, .int .u64 0, .int .u64 0] 61)
  have a1 := (SetAt.new (w.alloc (.cells (setC s) 61)) t).alloc (.cells #[.int .u64 0, .int .u64 0, .int .u64 0, .int .u64 0] 61)
  rw [World.size_alloc] at a1
  have a2 := SetAt.zero ((w.alloc (.cells (setC s) 61)).alloc (.cells (setC t) 61))
  rw [World.size_alloc, World.size_alloc] at a2
  have hB0 : Below w.heap.size w (((w.alloc (.cells (setC s) 61)).alloc (.cells (setC t) 61)).alloc (.cells #[.int .u64 0, .int .u64 0, .int .u64 0, .int .u64 0] 61)) := (((Below.refl _ _).alloc (Nat.le_refl _) _).alloc (by simp) _).alloc (by simp; omega) _
  have A0 := Lib.hid a0
  have A1 := Lib.hid a1
  have A2 := Lib.hid a2
  have HB0 := Lib.hid hB0
  have HK := Lib.hid hk
  have HF := Lib.hid hf
  have H0 := Lib.hid h0
  clear a0 a1 a2 hB0 hk hf h0
  unfold setV setC
  go_enter Try.func73, Try.ntmps73
  go_wp2_with fail
  go_loopw [8] (fun iv wr => ∃ k : Nat, k ≤ 4 ∧ iv = .int .i64 (k : Nat) ∧ SetAt wr w.heap.size (M k) ∧ SetAt wr (w.heap.size + 1) t ∧ SetAt wr (w.heap.size + 1 + 1) 0#256 ∧ Below w.heap.size w wr) (fun iv _ => 4 - (intOf iv).toNat)
  case atStart => exact ⟨0, by omega, rfl, by rw [H0.out]; exact A0.out, A1.out, A2.out, HB0.out⟩
  case round =>
    obtain ⟨k, hk, rfl, h0, h1, h2, hB⟩ := hrel
    have l0 := h0.lt
    have l1 := h1.lt
    have l2 := h2.lt
    by_cases hlt : k < 4
    · obtain ⟨e1, e2, e3⟩ := HK.out k hlt
      have c0 := h0.wordAt hlt
      rw [e1] at c0
      have c1 := h1.wordAt hlt
      have f0 := h0.freeAt hlt
      have HS := Lib.hid (fun (W : World) (hW : SetAt W w.heap.size (M k)) => SetAt.setw hW hlt e2 e3)
      have hc := HF.out k hlt
      have i1 : (0 : Int) ≤ (k : Int) := by omega
      have i2 : (k : Int) < 4 := by omega
      generalize F (word s k) (word t k) = v at *
      generalize word s k = x at *
      generalize word t k = y at *
      clear e1 e2 e3
      go_wp2_with fail
      go_region_with (first
        | (go_at_fn fid; refine (hc _).mono ?_; rintro e w2 ⟨rfl, rfl⟩))
      all_goals
        go_wp2_with fail
        exact ⟨⟨k + 1, by omega, by go_num, HS.out _ h0, h1.off (by omega) _, h2.off (by omega) _, (hB.setCell (p := ⟨w.heap.size, k, none⟩) (Nat.le_refl _) _).drew⟩, by simp [intOf]; omega⟩
    · obtain rfl : k = 4 := by omega
      obtain ⟨c0, c1, c2, c3⟩ := h0.cells
      obtain ⟨d0, d1, d2, d3⟩ := h2.cells
      obtain ⟨f0, f1, f2, f3⟩ := h2.free
      go_wp2_with fail
      obtain ⟨q0, q1, q2, q3⟩ := (h2.put (M 4)).cells
      show bodyPost _ _ _ _ _ (putSet wr (w.heap.size + 1 + 1) (M 4))
      exact bodyPost_ret (v := .agg #[.int .u64 _, .int .u64 _, .int .u64 _, .int .u64 _]) (by simp [results, Try.results73, go_sem, q0, q1, q2, q3]) rfl ⟨rfl, below_put hB (by omega) _⟩

def mixS (s u : CSet) (k : Nat) : CSet := low u (64 * k) ||| (s &&& ~~~(low fullS (64 * k)))
theorem hasB_mix (s u : CSet) (k b : Nat) (hb : b < 256) : hasB (mixS s u k) b = if b < 64 * k then hasB u b else hasB s b := by
  unfold mixS
  rw [hasB_or, hasB_and, hasB_not _ _ hb, hasB_low, hasB_low, hasB_full _ hb]
  by_cases h : b < 64 * k <;> simp [h]
theorem word_mix (s u : CSet) (k i : Nat) (hi : i < 4) : word (mixS s u k) i = if i < k then word u i else word s i := by
  apply Nat.eq_of_testBit_eq
  intro j
  by_cases hj : j < 64
  · have hm := hasB_mix s u k (64 * i + j) (by omega)
    rw [word_testBit _ _ _ hj]
    show hasB _ _ = _
    rw [hm]
    by_cases h : i < k
    · rw [if_pos (by omega), if_pos h, word_testBit _ _ _ hj]; rfl
    · rw [if_neg (by omega), if_neg h, word_testBit _ _ _ hj]; rfl
  · rw [word_testBit_ge _ _ _ (by omega)]
    split <;> rw [word_testBit_ge _ _ _ (by omega)]
theorem mix_zero (s u : CSet) : mixS s u 0 = s := by
  apply set_ext; intro b hb; rw [hasB_mix _ _ _ _ hb, if_neg (by omega)]
theorem mix_all (s u : CSet) : mixS s u 4 = u := by
  apply set_ext; intro b hb; rw [hasB_mix _ _ _ _ hb, if_pos (by omega)]
theorem mix_step (s t u : CSet) (F : Nat → Nat → Nat) (hu : ∀ i, i < 4 → word u i = F (word s i) (word t i)) (k : Nat) (hk : k < 4) :
    word (mixS s u k) k = word s k ∧ word (mixS s u (k + 1)) k = F (word s k) (word t k) ∧ ∀ i, i < 4 → i ≠ k → word (mixS s u (k + 1)) i = word (mixS s u k) i := by
  refine ⟨by rw [word_mix _ _ _ _ hk, if_neg (by omega)], by rw [word_mix _ _ _ _ hk, if_pos (by omega), hu k hk], fun i hi hne => ?_⟩
  rw [word_mix _ _ _ _ hi, word_mix _ _ _ _ hi]
  by_cases h : i < k
  · rw [if_pos h, if_pos (by omega)]
  · rw [if_neg h, if_neg (by omega)]

end Go.Proofs.Ytpjllppbpnkemaa

/- classes.Minus, Not, Sub, Count. -/
namespace Go.Proofs.Ytpjllppbpnkemaa
open Go.RowKit Go.Shelf

def notN (x : Nat) : Nat := 18446744073709551615 - x
theorem notN_lt (x : Nat) : notN x < 18446744073709551616 := by unfold notN; omega
theorem word_not (s : CSet) (i : Nat) (hi : i < 4) : word (~~~s) i = notN (word s i) := by
  symm; apply eq_word
  · exact notN_lt _
  · intro j hj
    have := Nat.testBit_two_pow_sub_succ (n := 64) (x := word s i) (word_lt s i) j
    rw [show (2 : Nat) ^ 64 - (word s i + 1) = notN (word s i) by unfold notN; omega] at this
    rw [this, decide_eq_true hj, Bool.true_and, word_testBit s i j hj, BitVec.getLsbD_not, decide_eq_true (by omega), Bool.true_and]
theorem xor_ones (x : Nat) (hx : x < 18446744073709551616) : 18446744073709551615 ^^^ x = notN x := by
  apply Nat.eq_of_testBit_eq
  intro j
  have h1 := Nat.testBit_two_pow_sub_succ (n := 64) (x := x) hx j
  rw [show (2 : Nat) ^ 64 - (x + 1) = notN x by unfold notN; omega] at h1
  have h2 := Nat.testBit_two_pow_sub_one 64 j
  rw [show (2 : Nat) ^ 64 - 1 = 18446744073709551615 from rfl] at h2
  rw [Nat.testBit_xor, h1, h2]
  by_cases hj : j < 64
  · simp [hj]
  · rw [decide_eq_false hj, Nat.testBit_lt_two_pow (Nat.lt_of_lt_of_le hx (show 2 ^ 64 ≤ 2 ^ j from Nat.pow_le_pow_right (by decide) (by omega)))]
    rfl
theorem xor_max (x : Nat) (hx : x < 18446744073709551616) : bits .xor .u64 IntKind.u64.max (x : Int) = ((notN x : Nat) : Int) := by
  have e : IntKind.u64.max = ((18446744073709551615 : Nat) : Int) := by decide
  rw [e, u64_xor_nat 18446744073709551615 x (by decide) hx, xor_ones x hx]
theorem notF_p (x y : Nat) (hx : x < 18446744073709551616) (w : World) : Calls Try.prog 74 #[.int .u64 (x : Int), .int .u64 (y : Int)] w fun e w' => e = .returned (.int .u64 ((notN x : Nat) : Int)) ∧ w = w' := by
  have HX := Lib.hid (xor_max x hx)
  have hsg : ¬ IntKind.u64.signed = true := by decide
  go_enter Try.func74, Try.ntmps74
  go_wp2
  go_ret
  exact ⟨by rw [← HX.out]; rfl, rfl⟩

set_option maxRecDepth 100000 in
set_option maxHeartbeats 1000000 in
theorem not_p (s : CSet) (w : World) : Calls Try.prog 57 #[setV s] w fun e w' => e = .returned (setV (~~~s)) ∧ Below w.heap.size w w' := by
  have a2 := SetAt.zero (w.alloc (.cells (setC s) 61))
  rw [World.size_alloc] at a2
  have hB0 : Below w.heap.size w ((w.alloc (.cells (setC s) 61)).alloc (.cells #[.int .u64 0, .int .u64 0, .int .u64 0, .int .u64 0] 61)) := ((Below.refl _ _).alloc (Nat.le_refl _) _).alloc (by simp) _
  have A2 := Lib.hid a2
  have HB0 := Lib.hid hB0
  clear a2 hB0
  have hc := fun w => each_p 74 (enters_of Try.func74 (by kernel_rfl) rfl) (fun x _ => notN x) s s (mixS s (~~~s)) (mix_zero _ _) (mix_step s s (~~~s) (fun x _ => notN x) fun i hi => word_not s i hi) (fun k _ w => notF_p _ _ (word_lt _ _) w) w
  rw [mix_all] at hc
  have HC := Lib.hid hc
  clear hc
  unfold setV setC
  go_enter Try.func57, Try.ntmps57
  go_wp2_with fail
  refine (HC.out _).mono ?_
  rintro e w1 ⟨rfl, hb1⟩
  have h2 := A2.out.below hb1 (by simp <;> omega)
  have HB1 := Lib.hid (next HB0.out hb1)
  obtain ⟨d0, d1, d2, d3⟩ := h2.cells
  obtain ⟨f0, f1, f2, f3⟩ := h2.free
  clear hb1
  unfold setV setC
  go_wp2_with fail
  obtain ⟨q0, q1, q2, q3⟩ := (h2.put (~~~s)).cells
  show bodyPost _ _ _ _ _ (putSet w1 (w.heap.size + 1) (~~~s))
  exact bodyPost_ret (v := .agg #[.int .u64 _, .int .u64 _, .int .u64 _, .int .u64 _]) (by simp [results, Try.results57, go_sem, q0, q1, q2, q3]) rfl ⟨rfl, below_put HB1.out (by omega) _⟩

end Go.Proofs.Ytpjllppbpnkemaa

/- The gaps of a pattern, their number of lines, sums of numbers: both sides. -/
namespace Go.Proofs.Ytpjllppbpnkemaa
open Go.RowKit Go.Sort

abbrev ecells (x : El) : Array Value := #[.bool x.gap, .int .u64 (word x.cls 0 : Int), .int .u64 (word x.cls 1 : Int), .int .u64 (word x.cls 2 : Int), .int .u64 (word x.cls 3 : Int), .int .i64 x.low, .int .i64 x.high]
def gapsV (p : List El) : List El := p.filter El.gap
theorem gaps_yes {p : List El} {i : Nat} (h : i < p.length) (hg : p[i].gap = true) : gapsV (p.take (i + 1)) = gapsV (p.take i) ++ [p[i]] := by
  unfold gapsV
  rw [List.take_succ_eq_append_getElem h, List.filter_append]
  simp [hg]
theorem gaps_no {p : List El} {i : Nat} (h : i < p.length) (hg : p[i].gap = false) : gapsV (p.take (i + 1)) = gapsV (p.take i) := by
  unfold gapsV
  rw [List.take_succ_eq_append_getElem h, List.filter_append]
  simp [hg]
theorem gaps_len (p : List El) (i : Nat) : (gapsV (p.take i)).length ≤ i := Nat.le_trans (List.length_filter_le _ _) (List.length_take_le _ _)
/-- a pattern freshly made -/
def GapP (w : World) (l : List El) (e : Ending) (w' : World) : Prop := ∃ v, e = .returned v ∧ w'.ownsRow w.heap.size 64 7 v l.length (pcells l) ∧ Below w.heap.size w w'

set_option maxRecDepth 100000 in
set_option maxHeartbeats 8000000 in
theorem gaps_p (v : Value) (p : List El) (w : World) (h : Pats w v p) (hl : p.length ≤ 1000) :
    Calls Try.prog 47 #[v] w (GapP w (gapsV p)) := by
  have HP := Lib.hid h
  obtain ⟨a, cap, rfl⟩ := Row.form2 h
  clear h
  go_enter Try.func47, Try.ntmps47
  go_wp2_with fail
  go_loopw [2, 7] (fun ov iv wr => ∃ (i : Nat) (ow : Value), ow = ov ∧ i ≤ p.length ∧ iv = .int .i64 (i : Nat) ∧ wr.ownsRow w.heap.size 64 7 ow (gapsV (p.take i)).length (pcells (gapsV (p.take i))) ∧ Below w.heap.size w wr) (fun _ iv _ => p.length - (intOf iv).toNat)
  case atStart => exact ⟨0, _, rfl, by omega, rfl, World.ownsRow_nil _ _ _ _, Below.refl _ _⟩
  case round =>
    obtain ⟨i, ow, rfl, hi, rfl, hown, hB⟩ := hrel
    have HB := Lib.hid hB
    have HO := Lib.hid hown
    clear hB hown
    by_cases hlt : i < p.length
    · obtain ⟨g, o, hga, hg, d0, d1, d2, d3, d4, d5, d6⟩ := Pats.at (Row.below HP.out HB.out) hlt
      subst hga
      have i1 : (0 : Int) ≤ (i : Int) := by omega
      have i2 : (i : Int) < (p.length : Int) := by omega
      have wi1 : IntKind.i64.wrap ((i : Int) + 1) = (i : Int) + 1 := IntWalk.i64_in _ (by omega)
      have HBA := Lib.hid (HB.out.alloc HB.out.size (.cells (ecells p[i]) 64))
      have HOA := Lib.hid (HO.out.alloc (.cells (ecells p[i]) 64))
      cases hg0 : p[i].gap
      · have HN := Lib.hid (gaps_no hlt hg0)
        unfold ecells at HBA HOA
        rw [hg0] at d0 HBA HOA
        clear hg0
        go_wp2_with fail
        exact ⟨⟨i + 1, _, rfl, by omega, by go_num, by rw [HN.out]; exact HOA.out, HBA.out⟩, by simp [intOf] <;> omega⟩
      · have HN := Lib.hid (gaps_yes hlt hg0)
        have hr := lit_el (wr.alloc (.cells (ecells p[i]) 64)) p[i]
        have hal : Below w.heap.size (wr.alloc (.cells (ecells p[i]) 64)) ((wr.alloc (.cells (ecells p[i]) 64)).alloc (.cells (ecells p[i]) 64)) := (Below.refl _ _).alloc HBA.out.size _
        obtain ⟨aa, cc, wa, hra, hoa, hba⟩ := app_el (HOA.out.alloc (.cells (ecells p[i]) 64)) hr (by have := gaps_len p i; simp only [List.length_cons, List.length_nil]; omega) (Nat.le_trans HBA.out.size (by simp))
        rw [← HN.out] at hra hoa
        generalize Value.slice aa _ cc = va at hra hoa
        have HRA := Lib.hid hra
        have HO4 := Lib.hid hoa
        have HB4 := Lib.hid (HBA.out.trans (hal.trans hba))
        rw [World.size_alloc] at HRA
        unfold ecells at HRA
        rw [hg0] at d0 HRA
        clear hg0 hra hoa hba hal hr HOA HBA
        go_wp2_with (at_builtin; refine wpList_append_run rfl rfl rfl rfl HRA.out ?_)
        exact ⟨⟨i + 1, _, rfl, by omega, by go_num, HO4.out, HB4.out⟩, by simp [intOf] <;> omega⟩
    · obtain rfl : i = p.length := by omega
      rw [List.take_length] at HO
      have i2 : ¬ (p.length : Int) < (p.length : Int) := by omega
      go_wp2_with fail
      go_ret
      exact ⟨_, rfl, HO.out, HB.out⟩
set_option maxRecDepth 100000 in
set_option maxHeartbeats 8000000 in
theorem gaps_r (v : Value) (p : List El) (w : World) (h : Pats w v p) (hl : p.length ≤ 1000) :
    Calls Try.prog 49 #[v] w (GapP w (gapsV p)) := by
  have HP := Lib.hid h
  obtain ⟨a, cap, rfl⟩ := Row.form2 h
  clear h
  go_enter Try.func49, Try.ntmps49
  go_wp2_with fail
  go_loopw [3, 4] (fun ov iv wr => ∃ (i : Nat) (ow : Value), ow = ov ∧ i ≤ p.length ∧ iv = .int .i64 (i : Nat) ∧ wr.ownsRow w.heap.size 64 7 ow (gapsV (p.take i)).length (pcells (gapsV (p.take i))) ∧ Below w.heap.size w wr) (fun _ iv _ => p.length - (intOf iv).toNat)
  case atStart => exact ⟨0, _, rfl, by omega, rfl, World.ownsRow_nil _ _ _ _, Below.refl _ _⟩
  case round =>
    obtain ⟨i, ow, rfl, hi, rfl, hown, hB⟩ := hrel
    have HB := Lib.hid hB
    have HO := Lib.hid hown
    clear hB hown
    by_cases hlt : i < p.length
    · obtain ⟨g, o, hga, hg, d0, d1, d2, d3, d4, d5, d6⟩ := Pats.at (Row.below HP.out HB.out) hlt
      subst hga
      have i1 : (0 : Int) ≤ (i : Int) := by omega
      have i2 : (i : Int) < (p.length : Int) := by omega
      have wi1 : IntKind.i64.wrap ((i : Int) + 1) = (i : Int) + 1 := IntWalk.i64_in _ (by omega)
      cases hg0 : p[i].gap
      · have HN := Lib.hid (gaps_no hlt hg0)
        rw [hg0] at d0
        clear hg0
        go_wp2_with fail
        exact ⟨⟨i + 1, _, rfl, by omega, by go_num, by rw [HN.out]; exact HO.out, HB.out⟩, by simp [intOf] <;> omega⟩
      · have HN := Lib.hid (gaps_yes hlt hg0)
        have hr := lit_el wr p[i]
        have hal : Below w.heap.size wr (wr.alloc (.cells (ecells p[i]) 64)) := (Below.refl _ _).alloc HB.out.size _
        obtain ⟨aa, cc, wa, hra, hoa, hba⟩ := app_el (HO.out.alloc (.cells (ecells p[i]) 64)) hr (by have := gaps_len p i; simp only [List.length_cons, List.length_nil]; omega) (Nat.le_trans HB.out.size (by simp))
        rw [← HN.out] at hra hoa
        generalize Value.slice aa _ cc = va at hra hoa
        have HRA := Lib.hid hra
        have HO4 := Lib.hid hoa
        have HB4 := Lib.hid (HB.out.trans (hal.trans hba))
        unfold ecells at HRA
        rw [hg0] at d0 HRA
        clear hg0 hra hoa hba hal hr
        go_wp2_with (at_builtin; refine wpList_append_run rfl rfl rfl rfl HRA.out ?_)
        exact ⟨⟨i + 1, _, rfl, by omega, by go_num, HO4.out, HB4.out⟩, by simp [intOf] <;> omega⟩
    · obtain rfl : i = p.length := by omega
      rw [List.take_length] at HO
      have i2 : ¬ (p.length : Int) < (p.length : Int) := by omega
      go_wp2_with fail
      go_ret
      exact ⟨_, rfl, HO.out, HB.out⟩
end Go.Proofs.Ytpjllppbpnkemaa

/- Sums of numbers; Count of both sides. -/
namespace Go.Proofs.Ytpjllppbpnkemaa
open Go.RowKit Go.Sort

/-- a slice of numbers -/
abbrev Nums (w : World) (v : Value) (l : List Int) : Prop := Row w 1 v l.length (l.map (Value.int .i64))
theorem Nums.at' {w : World} {a : Option Addr} {n cap : Nat} {l : List Int} (h : Row w 1 (.slice a n cap) n (l.map (Value.int .i64))) {i : Nat} (hn : i < n) (hi : i < l.length) : ∃ g o, a = some ⟨g, o, none⟩ ∧ g < w.heap.size ∧ w.cell? ⟨g, o + i, none⟩ = some (.int .i64 l[i]) := by
  obtain ⟨g, o, cp, e, hg, hc⟩ := Row.cellAt2 h hn (by omega)
  cases e
  have := hc 0 (by omega)
  rw [Nat.mul_one, Nat.add_zero, Nat.add_zero, List.getElem?_map, List.getElem?_eq_getElem hi] at this
  exact ⟨g, o, rfl, hg, this⟩
/-- numbers that a gap may have -/
def Small (l : List Int) : Prop := l.length ≤ 512 ∧ ∀ x ∈ l, 0 ≤ x ∧ x ≤ 16
theorem sumI_step {l : List Int} {i : Nat} (h : i < l.length) : (l.take (i + 1)).sum = (l.take i).sum + l[i] := by
  rw [List.take_succ_eq_append_getElem h, List.sum_append]
  simp
theorem Small.sum_in {l : List Int} (h : Small l) : ∀ i, i ≤ l.length → 0 ≤ (l.take i).sum ∧ (l.take i).sum ≤ 16 * (i : Int)
  | 0, _ => by simp
  | i + 1, hi => by
    have ih := h.sum_in i (by omega)
    have hx := h.2 l[i] (List.getElem_mem _)
    rw [sumI_step (by omega)]
    omega
set_option maxRecDepth 100000 in
set_option maxHeartbeats 4000000 in
theorem total_p (v : Value) (l : List Int) (w : World) (h : Nums w v l) (hs : Small l) :
    Calls Try.prog 51 #[v] w fun e w' => e = .returned (.int .i64 l.sum) ∧ w' = w := by
  have HP := Lib.hid h
  have hl := hs.1
  obtain ⟨a, cap, rfl⟩ := Row.form2 h
  clear h
  go_enter Try.func51, Try.ntmps51
  go_wp2_with fail
  go_loopw [2, 7] (fun sv iv wr => ∃ i : Nat, i ≤ l.length ∧ iv = .int .i64 (i : Nat) ∧ sv = .int .i64 (l.take i).sum ∧ w = wr) (fun _ iv _ => l.length - (intOf iv).toNat)
  case atStart => exact ⟨0, by omega, rfl, by simp, rfl⟩
  case round =>
    obtain ⟨i, hi, rfl, rfl, rfl⟩ := hrel
    by_cases hlt : i < l.length
    · obtain ⟨g, o, hga, hg, d0⟩ := Nums.at' HP.out hlt hlt
      subst hga
      have i1 : (0 : Int) ≤ (i : Int) := by omega
      have i2 : (i : Int) < (l.length : Int) := by omega
      have wi1 : IntKind.i64.wrap ((i : Int) + 1) = (i : Int) + 1 := IntWalk.i64_in _ (by omega)
      have b1 := hs.sum_in i hi
      have b2 := hs.2 l[i] (List.getElem_mem _)
      have HN := Lib.hid (sumI_step hlt)
      have ws : IntKind.i64.wrap ((l.take i).sum + l[i]) = (l.take i).sum + l[i] := IntWalk.i64_in _ (by omega)
      clear hs b1 b2
      go_wp2_with fail
      exact ⟨⟨i + 1, by omega, by go_num, by rw [HN.out], trivial⟩, by simp [intOf] <;> omega⟩
    · obtain rfl : i = l.length := by omega
      have HN := Lib.hid (show (l.take l.length).sum = l.sum by rw [List.take_length])
      have i2 : ¬ (l.length : Int) < (l.length : Int) := by omega
      go_wp2_with fail
      go_ret
      exact ⟨by rw [← HN.out]; rfl, rfl⟩
set_option maxRecDepth 100000 in
set_option maxHeartbeats 4000000 in
theorem sum_r (v : Value) (l : List Int) (w : World) (h : Nums w v l) (hs : Small l) :
    Calls Try.prog 53 #[v] w fun e w' => e = .returned (.int .i64 l.sum) ∧ w' = w := by
  have HP := Lib.hid h
  have hl := hs.1
  obtain ⟨a, cap, rfl⟩ := Row.form2 h
  clear h
  go_enter Try.func53, Try.ntmps53
  go_wp2_with fail
  go_loopw [3, 4] (fun sv iv wr => ∃ i : Nat, i ≤ l.length ∧ iv = .int .i64 (i : Nat) ∧ sv = .int .i64 (l.take i).sum ∧ w = wr) (fun _ iv _ => l.length - (intOf iv).toNat)
  case atStart => exact ⟨0, by omega, rfl, by simp, rfl⟩
  case round =>
    obtain ⟨i, hi, rfl, rfl, rfl⟩ := hrel
    by_cases hlt : i < l.length
    · obtain ⟨g, o, hga, hg, d0⟩ := Nums.at' HP.out hlt hlt
      subst hga
      have i1 : (0 : Int) ≤ (i : Int) := by omega
      have i2 : (i : Int) < (l.length : Int) := by omega
      have wi1 : IntKind.i64.wrap ((i : Int) + 1) = (i : Int) + 1 := IntWalk.i64_in _ (by omega)
      have b1 := hs.sum_in i hi
      have b2 := hs.2 l[i] (List.getElem_mem _)
      have HN := Lib.hid (sumI_step hlt)
      have ws : IntKind.i64.wrap ((l.take i).sum + l[i]) = (l.take i).sum + l[i] := IntWalk.i64_in _ (by omega)
      clear hs b1 b2
      go_wp2_with fail
      exact ⟨⟨i + 1, by omega, by go_num, by rw [HN.out], trivial⟩, by simp [intOf] <;> omega⟩
    · obtain rfl : i = l.length := by omega
      have HN := Lib.hid (show (l.take l.length).sum = l.sum by rw [List.take_length])
      have i2 : ¬ (l.length : Int) < (l.length : Int) := by omega
      go_wp2_with fail
      go_ret
      exact ⟨by rw [← HN.out]; rfl, rfl⟩

def widthOf (x : El) : Int := x.high - x.low + 1
/-- how many choices the first k gaps have -/
def prodTo (g : List El) (k : Nat) : Int := ((g.take k).map widthOf).foldl (· * ·) 1
theorem prodTo_succ {g : List El} {k : Nat} (h : k < g.length) : prodTo g (k + 1) = prodTo g k * widthOf g[k] := by
  unfold prodTo
  rw [List.take_succ_eq_append_getElem h, List.map_append, List.foldl_append]
  rfl
/-- gaps of a pattern with which nothing is wrong -/
def OkG (g : List El) : Prop := g.length ≤ 512 ∧ ∀ x ∈ g, x.gap = true ∧ 0 ≤ x.low ∧ x.low ≤ x.high ∧ x.high ≤ 16
theorem OkP.gaps {p : List El} (h : OkP p) : OkG (gapsV p) := by
  refine ⟨Nat.le_trans (List.length_filter_le _ _) h.le, fun x hx => ?_⟩
  unfold gapsV at hx
  obtain ⟨hm, hg⟩ := List.mem_filter.1 hx
  obtain ⟨i, hi, rfl⟩ := List.mem_iff_getElem.1 hm
  obtain ⟨_, a, b, c, _⟩ := h.gap hi hg
  exact ⟨hg, a, b, c⟩
theorem OkG.width {g : List El} (h : OkG g) {x : El} (hx : x ∈ g) : 1 ≤ widthOf x ∧ widthOf x ≤ 17 := by
  have := h.2 x hx
  unfold widthOf
  omega
theorem prodTo_mono {g : List El} (h : OkG g) {i : Nat} : ∀ {j : Nat}, i ≤ j → j ≤ g.length → 1 ≤ prodTo g i ∧ prodTo g i ≤ prodTo g j
  | 0, hi, _ => by
    obtain rfl : i = 0 := by omega
    simp [prodTo]
  | j + 1, hi, hj => by
    have hw := (h.width (List.getElem_mem (show j < g.length by omega)))
    by_cases e : i = j + 1
    · subst e
      have ih := prodTo_mono h (i := j) (Nat.le_refl j) (by omega)
      rw [prodTo_succ (by omega)]
      refine ⟨?_, Int.le_refl _⟩
      have := Int.mul_le_mul ih.1 hw.1 (by omega) (by omega)
      omega
    · have ih := prodTo_mono h (i := i) (j := j) (by omega) (by omega)
      rw [prodTo_succ (by omega)]
      refine ⟨ih.1, Int.le_trans ih.2 ?_⟩
      have h1 : 1 ≤ prodTo g j := Int.le_trans ih.1 ih.2
      have := Int.mul_le_mul_of_nonneg_left hw.1 (show 0 ≤ prodTo g j by omega)
      omega
def cntE (p : List El) : Int := if (checkV p).2 ≠ 0 then (checkV p).2 else if 64 < prodTo (gapsV p) (gapsV p).length then 3 else 0
def cntV (p : List El) : Int := if cntE p = 0 then prodTo (gapsV p) (gapsV p).length else 0
theorem cntE_ok {p : List El} (h : cntE p = 0) : OkP p ∧ prodTo (gapsV p) (gapsV p).length ≤ 64 := by
  unfold cntE at h
  by_cases h1 : (checkV p).2 ≠ 0
  · rw [if_pos h1] at h; exact absurd h h1
  · rw [if_neg h1] at h
    by_cases h2 : 64 < prodTo (gapsV p) (gapsV p).length
    · rw [if_pos h2] at h; exact absurd h (by decide)
    · exact ⟨okP_of (by simpa using h1), by omega⟩
theorem cnt_over {p : List El} (h0 : (checkV p).2 = 0) {i : Nat} (hi : i ≤ (gapsV p).length) (h : 64 < prodTo (gapsV p) i) : cntE p = 3 ∧ cntV p = 0 := by
  have hm := prodTo_mono (okP_of h0).gaps hi (Nat.le_refl _)
  have e : cntE p = 3 := by
    unfold cntE
    rw [if_neg (by rw [h0]; simp), if_pos (by omega)]
  exact ⟨e, by unfold cntV; rw [if_neg (by rw [e]; decide)]⟩
theorem cnt_fine {p : List El} (h0 : (checkV p).2 = 0) (h : ¬ 64 < prodTo (gapsV p) (gapsV p).length) : cntE p = 0 ∧ cntV p = prodTo (gapsV p) (gapsV p).length := by
  have e : cntE p = 0 := by
    unfold cntE
    rw [if_neg (by rw [h0]; simp), if_neg h]
  exact ⟨e, by unfold cntV; rw [if_pos e]⟩
theorem cnt_bad {p : List El} (h0 : (checkV p).2 ≠ 0) : cntE p = (checkV p).2 ∧ cntV p = 0 := by
  have e : cntE p = (checkV p).2 := by unfold cntE; rw [if_pos h0]
  exact ⟨e, by unfold cntV; rw [if_neg (by rw [e]; exact h0)]⟩
def CntP (p : List El) (w : World) (e : Ending) (w' : World) : Prop := e = .returned (.tuple #[.int .i64 (cntV p), .int .i64 (cntE p)]) ∧ Below w.heap.size w w'
set_option maxRecDepth 100000 in
set_option maxHeartbeats 8000000 in
theorem count_p (v : Value) (p : List El) (w : World) (h : Pats w v p) :
    Calls Try.prog 18 #[v] w (CntP p w) := by
  have KC := Lib.hid (check_p v p w h)
  have HP := Lib.hid h
  obtain ⟨a, cap, rfl⟩ := Row.form2 h
  clear h
  by_cases h0 : (checkV p).2 = 0
  · have HG := Lib.hid (okP_of h0).gaps
    have hle := (okP_of h0).le
    have hgl := HG.out.1
    have HOV := Lib.hid (fun i hi hh => @cnt_over p h0 i hi hh)
    have HFI := Lib.hid (cnt_fine h0)
    rw [checkV_ok h0] at KC
    clear h0
    go_enter Try.func18, Try.ntmps18
    go_wp2_with fail
    refine KC.out.mono ?_
    rintro e w1 ⟨rfl, hb1⟩
    have HB1 := Lib.hid hb1
    have KG := Lib.hid (gaps_p _ p w1 (Row.below HP.out hb1) (by omega))
    clear hb1 KC
    go_wp2_with fail
    refine KG.out.mono ?_
    rintro e w2 ⟨v2, rfl, ho, hb⟩
    have HB2 := Lib.hid (next HB1.out hb)
    have HV2 := Lib.hid (Row.of_owns ho)
    obtain ⟨a2, c2, rfl⟩ := Row.form2 HV2.out
    clear ho hb KG
    generalize gapsV p = gs at *
    go_wp2_with fail
    go_loopw [2, 19] (fun nv iv wr => ∃ i : Nat, i ≤ gs.length ∧ iv = .int .i64 (i : Nat) ∧ nv = .int .i64 (prodTo gs i) ∧ prodTo gs i ≤ 64 ∧ Below w2.heap.size w2 wr) (fun _ iv _ => gs.length - (intOf iv).toNat)
    case atStart => exact ⟨0, by omega, rfl, by simp [prodTo], by simp [prodTo], Below.refl _ _⟩
    case round =>
      obtain ⟨i, hi, rfl, rfl, hle64, hB⟩ := hrel
      have HB := Lib.hid hB
      have b0 := (prodTo_mono HG.out (Nat.le_refl i) hi).1
      clear hB
      by_cases hlt : i < gs.length
      · obtain ⟨g, o, hga, hg, d0, d1, d2, d3, d4, d5, d6⟩ := Pats.at (Row.below HV2.out HB.out) hlt
        subst hga
        have i1 : (0 : Int) ≤ (i : Int) := by omega
        have i2 : (i : Int) < (gs.length : Int) := by omega
        have wi1 : IntKind.i64.wrap ((i : Int) + 1) = (i : Int) + 1 := IntWalk.i64_in _ (by omega)
        have hx := HG.out.2 gs[i] (List.getElem_mem _)
        have hw := HG.out.width (List.getElem_mem hlt)
        have hps := prodTo_succ hlt
        unfold widthOf at hw hps
        have w1 : IntKind.i64.wrap (gs[i].high - gs[i].low) = gs[i].high - gs[i].low := IntWalk.i64_in _ (by omega)
        have w2' : IntKind.i64.wrap (gs[i].high - gs[i].low + 1) = gs[i].high - gs[i].low + 1 := IntWalk.i64_in _ (by omega)
        have b1 : prodTo gs (i + 1) ≤ 64 * 17 := by
          rw [hps]
          exact Int.mul_le_mul hle64 hw.2 (by omega) (by omega)
        have b2 : 0 ≤ prodTo gs (i + 1) := by
          rw [hps]
          exact Int.mul_nonneg (by omega) (by omega)
        have w3 : IntKind.i64.wrap (prodTo gs i * (gs[i].high - gs[i].low + 1)) = prodTo gs (i + 1) := by rw [← hps]; exact IntWalk.i64_in _ (by omega)
        have HBA := Lib.hid (HB.out.alloc HB.out.size (.cells (ecells gs[i]) 64))
        unfold ecells at HBA
        clear hx hw hps
        by_cases h64 : 64 < prodTo gs (i + 1)
        · obtain ⟨e1, e2⟩ := HOV.out (i + 1) (by omega) h64
          have HE := Lib.hid e1
          have HV := Lib.hid e2
          clear e1 e2 b1 b2
          generalize prodTo gs (i + 1) = q at *
          go_wp2_with fail
          go_ret2
          exact show CntP _ _ _ _ from ⟨by rw [HE.out, HV.out]; rfl, next HB2.out HBA.out⟩
        · have h65 : prodTo gs (i + 1) ≤ 64 := by omega
          clear b1 b2
          go_wp2_with fail
          exact ⟨⟨i + 1, by omega, by go_num, rfl, h65, HBA.out⟩, by simp [intOf] <;> omega⟩
      · obtain rfl : i = gs.length := by omega
        have i2 : ¬ (gs.length : Int) < (gs.length : Int) := by omega
        obtain ⟨e1, e2⟩ := HFI.out (by omega)
        have HE := Lib.hid e1
        have HV := Lib.hid e2
        clear e1 e2
        go_wp2_with fail
        go_ret2
        exact show CntP _ _ _ _ from ⟨by rw [HE.out, HV.out]; rfl, next HB2.out HB.out⟩
  · obtain ⟨e1, e2⟩ := cnt_bad h0
    have HE := Lib.hid e1
    have HV := Lib.hid e2
    clear e1 e2
    have t1 : ((checkV p).2 != 0) = true := bne_iff_ne.2 h0
    generalize (checkV p).1 = x1 at *
    generalize (checkV p).2 = x2 at *
    clear h0
    go_enter Try.func18, Try.ntmps18
    go_wp2_with fail
    refine KC.out.mono ?_
    rintro e w1 ⟨rfl, hb1⟩
    have HB1 := Lib.hid hb1
    clear hb1 KC
    go_wp2_with fail
    go_ret2
    exact show CntP _ _ _ _ from ⟨by rw [HE.out, HV.out]; rfl, HB1.out⟩
set_option maxRecDepth 100000 in
set_option maxHeartbeats 8000000 in
theorem count_r (v : Value) (p : List El) (w : World) (h : Pats w v p) :
    Calls Try.prog 19 #[v] w (CntP p w) := by
  have KC := Lib.hid (check_r v p w h)
  have HP := Lib.hid h
  obtain ⟨a, cap, rfl⟩ := Row.form2 h
  clear h
  by_cases h0 : (checkV p).2 = 0
  · have HG := Lib.hid (okP_of h0).gaps
    have hle := (okP_of h0).le
    have hgl := HG.out.1
    have HOV := Lib.hid (fun i hi hh => @cnt_over p h0 i hi hh)
    have HFI := Lib.hid (cnt_fine h0)
    rw [checkV_ok h0] at KC
    clear h0
    go_enter Try.func19, Try.ntmps19
    go_wp2_with fail
    refine KC.out.mono ?_
    rintro e w1 ⟨rfl, hb1⟩
    have HB1 := Lib.hid hb1
    have KG := Lib.hid (gaps_r _ p w1 (Row.below HP.out hb1) (by omega))
    clear hb1 KC
    go_wp2_with fail
    refine KG.out.mono ?_
    rintro e w2 ⟨v2, rfl, ho, hb⟩
    have HB2 := Lib.hid (next HB1.out hb)
    have HV2 := Lib.hid (Row.of_owns ho)
    obtain ⟨a2, c2, rfl⟩ := Row.form2 HV2.out
    clear ho hb KG
    generalize gapsV p = gs at *
    go_wp2_with fail
    go_loopw [7, 8] (fun nv iv wr => ∃ i : Nat, i ≤ gs.length ∧ iv = .int .i64 (i : Nat) ∧ nv = .int .i64 (prodTo gs i) ∧ prodTo gs i ≤ 64 ∧ Below w2.heap.size w2 wr) (fun _ iv _ => gs.length - (intOf iv).toNat)
    case atStart => exact ⟨0, by omega, rfl, by simp [prodTo], by simp [prodTo], Below.refl _ _⟩
    case round =>
      obtain ⟨i, hi, rfl, rfl, hle64, hB⟩ := hrel
      have HB := Lib.hid hB
      have b0 := (prodTo_mono HG.out (Nat.le_refl i) hi).1
      clear hB
      by_cases hlt : i < gs.length
      · obtain ⟨g, o, hga, hg, d0, d1, d2, d3, d4, d5, d6⟩ := Pats.at (Row.below HV2.out HB.out) hlt
        subst hga
        have i1 : (0 : Int) ≤ (i : Int) := by omega
        have i2 : (i : Int) < (gs.length : Int) := by omega
        have wi1 : IntKind.i64.wrap ((i : Int) + 1) = (i : Int) + 1 := IntWalk.i64_in _ (by omega)
        have hx := HG.out.2 gs[i] (List.getElem_mem _)
        have hw := HG.out.width (List.getElem_mem hlt)
        have hps := prodTo_succ hlt
        unfold widthOf at hw hps
        have w1 : IntKind.i64.wrap (gs[i].high - gs[i].low) = gs[i].high - gs[i].low := IntWalk.i64_in _ (by omega)
        have w2' : IntKind.i64.wrap (gs[i].high - gs[i].low + 1) = gs[i].high - gs[i].low + 1 := IntWalk.i64_in _ (by omega)
        have b1 : prodTo gs (i + 1) ≤ 64 * 17 := by
          rw [hps]
          exact Int.mul_le_mul hle64 hw.2 (by omega) (by omega)
        have b2 : 0 ≤ prodTo gs (i + 1) := by
          rw [hps]
          exact Int.mul_nonneg (by omega) (by omega)
        have w3 : IntKind.i64.wrap (prodTo gs i * (gs[i].high - gs[i].low + 1)) = prodTo gs (i + 1) := by rw [← hps]; exact IntWalk.i64_in _ (by omega)
        have HBA := Lib.hid HB.out.drew
        clear hx hw hps
        by_cases h64 : 64 < prodTo gs (i + 1)
        · obtain ⟨e1, e2⟩ := HOV.out (i + 1) (by omega) h64
          have HE := Lib.hid e1
          have HV := Lib.hid e2
          clear e1 e2 b1 b2
          generalize prodTo gs (i + 1) = q at *
          go_wp2_with fail
          go_region
          all_goals
            go_wp2_with fail
            go_ret2
            exact show CntP _ _ _ _ from ⟨by rw [HE.out, HV.out]; rfl, next HB2.out HBA.out⟩
        · have h65 : prodTo gs (i + 1) ≤ 64 := by omega
          clear b1 b2
          go_wp2_with fail
          go_region
          all_goals
            go_wp2_with fail
            exact ⟨⟨i + 1, by omega, by go_num, rfl, h65, HBA.out⟩, by simp [intOf] <;> omega⟩
      · obtain rfl : i = gs.length := by omega
        have i2 : ¬ (gs.length : Int) < (gs.length : Int) := by omega
        obtain ⟨e1, e2⟩ := HFI.out (by omega)
        have HE := Lib.hid e1
        have HV := Lib.hid e2
        clear e1 e2
        go_wp2_with fail
        go_ret2
        exact show CntP _ _ _ _ from ⟨by rw [HE.out, HV.out]; rfl, next HB2.out HB.out⟩
  · obtain ⟨e1, e2⟩ := cnt_bad h0
    have HE := Lib.hid e1
    have HV := Lib.hid e2
    clear e1 e2
    have t1 : ((checkV p).2 != 0) = true := bne_iff_ne.2 h0
    generalize (checkV p).1 = x1 at *
    generalize (checkV p).2 = x2 at *
    clear h0
    go_enter Try.func19, Try.ntmps19
    go_wp2_with fail
    refine KC.out.mono ?_
    rintro e w1 ⟨rfl, hb1⟩
    have HB1 := Lib.hid hb1
    clear hb1 KC
    go_wp2_with fail
    go_ret2
    exact show CntP _ _ _ _ from ⟨by rw [HE.out, HV.out]; rfl, HB1.out⟩
end Go.Proofs.Ytpjllppbpnkemaa

/- The choices of gaps, yielded one after the other: the recursive function within all. -/
namespace Go.Proofs.Ytpjllppbpnkemaa
open Go.RowKit Go.Sort Go.Shelf
attribute [local go_sem] Oper.semAt_some

/-- the numbers of a gap -/
def rangeI (x : El) (i : Nat) : List Int := (List.range i).map fun (k : Nat) => x.low + (k : Int)
def widthN (x : El) : Nat := (x.high - x.low + 1).toNat
/-- the choices that begin with some numbers, in the order of their numbers -/
def lexN : List El → List Int → List (List Int)
  | [], c => [c]
  | x :: g, c => (rangeI x (widthN x)).flatMap fun n => lexN g (c ++ [n])
def partN (x : El) (g : List El) (c : List Int) (i : Nat) : List (List Int) := (rangeI x i).flatMap fun n => lexN g (c ++ [n])
theorem partN_zero (x : El) (g : List El) (c : List Int) : partN x g c 0 = [] := rfl
theorem partN_succ (x : El) (g : List El) (c : List Int) (i : Nat) : partN x g c (i + 1) = partN x g c i ++ lexN g (c ++ [x.low + (i : Int)]) := by
  unfold partN rangeI
  rw [List.range_succ, List.map_append, List.flatMap_append]
  simp
theorem partN_all (x : El) (g : List El) (c : List Int) : partN x g c (widthN x) = lexN (x :: g) c := rfl
theorem partN_pre (x : El) (g : List El) (c : List Int) {i : Nat} : ∀ {j : Nat}, i ≤ j → partN x g c i <+: partN x g c j
  | 0, h => by obtain rfl : i = 0 := by omega
               exact List.prefix_rfl
  | j + 1, h => by
    by_cases e : i = j + 1
    · subst e; exact List.prefix_rfl
    · exact (partN_pre x g c (show i ≤ j by omega)).trans (by rw [partN_succ]; exact List.prefix_append _ _)

/-- what a round keeps: the blocks of the iterator's own types; of numbers, all but one -/
def KS (nb : Option Nat) (A B : World) : Prop := A.heap.size ≤ B.heap.size ∧ ∀ (k : Nat) (cs : Array Value) (t : TypeId) (fr : Nat × Nat), A.heap[k]? = some (.cells cs t fr) →
  (t = 22 ∨ t = 103 ∨ t = 64 ∨ (t = 3 ∧ some k ≠ nb)) → B.heap[k]? = some (.cells cs t fr)
theorem KS.refl (nb : Option Nat) (A : World) : KS nb A A := ⟨Nat.le_refl _, fun _ _ _ _ h _ => h⟩
theorem KS.trans {nb : Option Nat} {A B C : World} (h : KS nb A B) (k : KS nb B C) : KS nb A C := ⟨Nat.le_trans h.1 k.1, fun i cs t fr e ht => k.2 i cs t fr (h.2 i cs t fr e ht) ht⟩
theorem KS.of_below {nb : Option Nat} {A B : World} (h : Below A.heap.size A B) : KS nb A B := ⟨h.size, fun k _ _ _ e _ => (h.block k (Array.getElem?_eq_some_iff.1 e).1).trans e⟩
theorem KS.putObj (nb : Option Nat) (W : World) (l : Nat) (o o' : Obj) (hl : W.heap[l]? = some o) (ho : o.isCells = false) : KS nb W (W.putObj l o') := ⟨by simp [World.putObj], fun k cs t fr h _ => by
  by_cases e : k = l
  · subst e; rw [hl] at h; cases h; cases ho
  · exact (World.putObj_heap_other e).trans h⟩
/-- a row that lies in a block of its type, in what keeps that block -/
theorem owns_keep {A B : World} {base s n : Nat} {e : TypeId} {v : Value} {xs : List Value} (h : A.ownsRow base e s v n xs) (hk : ∀ g cs, v.ownBlock = some g → A.heap[g]? = some (.cells cs e) → B.heap[g]? = some (.cells cs e)) : B.ownsRow base e s v n xs := by
  obtain ⟨h1, h2⟩ := h
  refine ⟨h1, ?_⟩
  rcases h2 with h2 | ⟨g, cap, cur, rfl, hb, hg, hr⟩
  · exact .inl h2
  · exact .inr ⟨g, cap, cur, rfl, hb, hk g cur rfl hg, hr⟩
/-- where the iterator's variables lie -/
structure Ctx (W : World) (Gb Yb Fb l : Nat) (gv : Value) (gs : List El) : Prop where
  g : Boxed W Gb 22 gv
  y : Boxed W Yb 103 (.func (.yield l) #[] #[])
  f : Boxed W Fb 103 (.func (.func 69) #[] #[.pointer (some ⟨Gb, 0, none⟩), .pointer (some ⟨Yb, 0, none⟩), .pointer (some ⟨Fb, 0, none⟩)])
  r : W.ownsRow 0 64 7 gv gs.length (pcells gs)
theorem Ctx.keep {A B : World} {nb : Option Nat} {Gb Yb Fb l : Nat} {gv : Value} {gs : List El} (h : Ctx A Gb Yb Fb l gv gs) (k : KS nb A B) : Ctx B Gb Yb Fb l gv gs :=
  ⟨k.2 _ _ _ _ h.g (.inl rfl), k.2 _ _ _ _ h.y (.inr (.inl rfl)), k.2 _ _ _ _ h.f (.inr (.inl rfl)), owns_keep h.r fun _ _ _ hg => k.2 _ _ _ _ hg (.inr (.inr (.inl rfl)))⟩
abbrev icell (c : List Int) : List Value := c.map (Value.int .i64)
theorem lv_keep {A B : World} {nb : Option Nat} {base : Nat} (hnb : ∀ k, nb = some k → k < base) {v : Value} {c : List Int} (h : A.ownsRow base 3 1 v c.length (icell c)) (k : KS nb A B) : B.ownsRow base 3 1 v c.length (icell c) :=
  owns_keep h fun g cs hv hg => k.2 _ _ _ _ hg (.inr (.inr (.inr ⟨rfl, fun e => by
    have h1 := (h.lt g hv).1
    have h2 := hnb g e.symm
    omega⟩)))
theorem cut_full {w : World} {base : Nat} {v : Value} {c : List Int} (h : w.ownsRow base 3 1 v c.length (icell c)) (hc : c.length ≤ 512) :
    ∃ ao cap ao', v = .slice ao c.length cap ∧ (∀ w', (Instr.slice 34 (.slice ao c.length cap) none (some (.int .i64 (c.length : Int))) (some (.int .i64 (c.length : Int)))).run Try.prog w' = .ok (.slice ao' c.length c.length) w') ∧
      (ao' = none → c.length = 0 ∧ c.length = 0) ∧ (∀ b, ao' = some b → ∀ j u, (icell c)[j]? = some u → w.cell? (b.add j) = some u) := by
  have hr := Row.of_owns h
  have hcells := fun g (e : v.ownBlock = some g) => h.cells e
  obtain ⟨h1, h2⟩ := h
  have hsz : ∀ w', (sizeOf (Try.prog.elem 34)).run Try.prog w' = .ok 1 w' := fun w' => by kernel_rfl
  rcases h2 with ⟨rfl, h0⟩ | ⟨g, cap, cur, rfl, hb, hg, hn, hm, hs, ht⟩
  · refine ⟨none, 0, none, by rw [h0], fun w' => ?_, fun _ => ⟨h0, h0⟩, fun b e => by cases e⟩
    rw [run_slice_hm (P := Try.prog) w' 34 none c.length 0 (by kernel_rfl) .i64 .i64 (c.length : Int) (c.length : Int) (by omega) (by omega) (by omega), hsz]
    simp only [Result.andThen, sliced, Int.toNat_natCast, h0]
    rfl
  · refine ⟨some ⟨g, 0, none⟩, cap, some ⟨g, 0, none⟩, rfl, fun w' => ?_, (by intro e; cases e), fun b e j u hu => ?_⟩
    · rw [run_slice_hm (P := Try.prog) w' 34 (some ⟨g, 0, none⟩) c.length cap (by kernel_rfl) .i64 .i64 (c.length : Int) (c.length : Int) (by omega) (by omega) (by omega), hsz]
      simp only [Result.andThen, sliced, Int.toNat_natCast]
      simp [Addr.add]
    · cases e
      exact hcells g rfl j u hu
end Go.Proofs.Ytpjllppbpnkemaa

/- The recursive function within all: what it yields (to what goes on at every round). -/
namespace Go.Proofs.Ytpjllppbpnkemaa
open Go.RowKit Go.Sort Go.Shelf
attribute [local go_sem] Oper.semAt_some

/-- how a call of the recursive function ends -/
def FromE (nb : Option Nat) (J : List (List Int) → World → Prop) (all : List (List Int)) (W : World) (e : Ending) (W' : World) : Prop :=
  e = .returned (.bool true) ∧ J all W' ∧ KS nb W W'
theorem infoI : (Try.prog.info? 3).map (fun i => (i.zero, i.size, i.bytes)) = some (some (.int .i64 0), 1, 8) := by kernel_rfl

set_option maxRecDepth 100000 in
set_option maxHeartbeats 8000000 in
theorem from_in (n l Gb Yb Fb B : Nat) (nb : Option Nat) (hnb : ∀ k, nb = some k → k < B) (gv : Value) (gs : List El) (hg : OkG gs) (items : List (List Int)) (J : List (List Int) → World → Prop)
    (hJ : ∀ s A C, J s A → Below A.heap.size A C → J s C)
    (hY : ∀ pre c v W1, J pre W1 → pre ++ [c] <+: items → W1.ownsRow B 3 1 v c.length (icell c) → YieldAt Fence.wide (n - 1) Try.prog l #[v] W1 fun e W' =>
      e = .returned (.bool true) ∧ J (pre ++ [c]) W' ∧ KS nb W1 W') :
    ∀ (d : Nat) (c : List Int) (lv : Value) (pre : List (List Int)) (W : World), c.length + d = gs.length → Ctx W Gb Yb Fb l gv gs → B ≤ W.heap.size → W.ownsRow B 3 1 lv c.length (icell c) → J pre W → pre ++ lexN (gs.drop c.length) c <+: items →
      Calls Try.prog 69 #[lv, .pointer (some ⟨Gb, 0, none⟩), .pointer (some ⟨Yb, 0, none⟩), .pointer (some ⟨Fb, 0, none⟩)] W (FromE nb J (pre ++ lexN (gs.drop c.length) c) W) := by
  intro d
  induction d with
  | zero =>
    intro c lv pre W hd hctx hBW hlv h0 hp
    have hdrop : gs.drop c.length = [] := List.drop_eq_nil_of_le (by omega)
    rw [hdrop] at hp ⊢
    have hl : lexN [] c = [c] := rfl
    rw [hl] at hp ⊢
    obtain ⟨fn, tmps, assign, body, hy, hRd⟩ := hY pre c lv W h0 hp hlv
    have cg := hctx.g.cell
    have cy := hctx.y.cell
    obtain ⟨ga, gc, rfl⟩ := Row.form2 (Row.of_owns hctx.r)
    obtain ⟨la, lc, rfl⟩ := Row.form2 (Row.of_owns hlv)
    have t1 : ((c.length : Int) == (gs.length : Int)) = true := beq_iff_eq.2 (by omega)
    clear hY hctx hlv h0 hp hJ
    refine callsIn_wide.1 (callsIn_of_wp (n := n) Try.func69 rfl trivial ?_ rfl)
    simp only [Try.ntmps69, List.size_toArray, List.length_cons, List.length_nil, Nat.reduceAdd, Nat.reduceSub, Array.replicate_succ, Array.replicate_zero, List.push_toArray, List.append_toArray, List.nil_append, List.cons_append]
    gi_wp2
    refine ⟨fun h => (by cases h), ?_⟩
    refine hRd.mono ?_
    rintro e W3 ⟨rfl, hJ3, hk3⟩
    gi_wp2
    go_ret
    exact ⟨rfl, hJ3, hk3⟩
  | succ d ih =>
    intro c lv pre W hd hctx hBW hlv h0 hp
    have hlt : c.length < gs.length := by omega
    have hdrop : gs.drop c.length = gs[c.length] :: gs.drop (c.length + 1) := List.drop_eq_getElem_cons hlt
    rw [hdrop] at hp ⊢
    obtain ⟨x, hx⟩ : ∃ x, x = gs[c.length] := ⟨_, rfl⟩
    have hxm := (hg.2 gs[c.length] (List.getElem_mem _)).2
    rw [← hx] at hp hxm ⊢
    rw [← partN_all] at hp ⊢
    obtain ⟨rest, hrest⟩ : ∃ rest, rest = gs.drop (c.length + 1) := ⟨_, rfl⟩
    rw [← hrest] at hp ⊢
    have hcl : c.length ≤ 512 := by have := hg.1; omega
    have gsl : gs.length ≤ 512 := hg.1
    have cg := hctx.g.cell
    obtain ⟨ga, gc, rfl⟩ := Row.form2 (Row.of_owns hctx.r)
    obtain ⟨gg, go, hga, hgg, d0, d1, d2, d3, d4, d5, d6⟩ := Pats.at (Row.of_owns hctx.r) hlt
    subst hga
    rw [← hx] at d0 d1 d2 d3 d4 d5 d6
    obtain ⟨ao, lc, rfl⟩ := Row.form2 (Row.of_owns hlv)
    have t1 : ((c.length : Int) == (gs.length : Int)) = false := beq_eq_false_iff_ne.2 (by omega)
    have i1 : (0 : Int) ≤ (c.length : Int) := by omega
    have i2 : (c.length : Int) < (gs.length : Int) := by omega
    have IH := Lib.hid ih
    have HJ := Lib.hid hJ
    have HC := Lib.hid hctx
    have HL := Lib.hid hlv
    have HP := Lib.hid hp
    have HR := Lib.hid hrest
    have hal : Below W.heap.size W (W.alloc (.cells (ecells x) 64)) := (Below.refl _ _).alloc (Nat.le_refl _) _
    have HAL := Lib.hid hal
    have HX0 := Lib.hid (show (W.alloc (.cells (ecells x) 64)).heap[W.heap.size]? = some (.cells (ecells x) 64) from heap_alloc_new W _)
    have H0 := Lib.hid (hJ pre W _ h0 hal)
    have hwl : (widthN x : Int) = x.high - x.low + 1 := by unfold widthN; omega
    clear ih hJ hY hctx hlv h0 hp hg hx hdrop hrest hal
    go_enter Try.func69, Try.ntmps69
    go_wp2_with fail
    go_loopw [7] (fun nv wr => ∃ i : Nat, i ≤ widthN x ∧ nv = .int .i64 (x.low + (i : Int)) ∧ J (pre ++ partN x rest c i) wr ∧ KS nb (W.alloc (.cells (ecells x) 64)) wr) (fun nv _ => (x.high + 1 - intOf nv).toNat)
    case atStart => exact ⟨0, by omega, by simp, by rw [partN_zero, List.append_nil]; exact H0.out, KS.refl _ _⟩
    case round =>
      clear cg d0 d1 d2 d3 d4 d5 d6
      obtain ⟨i, hi, rfl, hj, hk⟩ := hrel
      have HJ1 := Lib.hid hj
      have HK1 := Lib.hid hk
      have HC1 := Lib.hid (HC.out.keep ((KS.of_below HAL.out).trans hk))
      have hx6 : wr.cell? ⟨W.heap.size, 6, none⟩ = some (.int .i64 x.high) := cell_in (hk.2 _ _ _ _ HX0.out (.inr (.inr (.inl rfl)))) rfl
      have hlv1 := lv_keep hnb HL.out ((KS.of_below HAL.out).trans hk)
      have hBw : B ≤ wr.heap.size := by have := HAL.out.size; have := hk.1; omega
      clear hj hk
      by_cases hlt2 : i < widthN x
      · have n1 : x.low + (i : Int) ≤ x.high := by omega
        have wn : IntKind.i64.wrap (x.low + (i : Int) + 1) = x.low + (i : Int) + 1 := IntWalk.i64_in _ (by omega)
        obtain ⟨ao2, lc2, ao', e2, hcut0, hcn, hcc⟩ := cut_full hlv1 hcl
        cases e2
        have HCC := Lib.hid hcc
        have cf := HC1.out.f.cell
        have hfl := HC1.out.f.lt
        obtain ⟨j0, hj, hy0, hy1, hy2⟩ := info_parts infoI
        have HIH := Lib.hid (fun (w4 : World) (v4 : Value) (hb4 : Below wr.heap.size wr w4) (hv4 : w4.ownsRow B 3 1 v4 (c ++ [x.low + (i : Int)]).length (icell (c ++ [x.low + (i : Int)]))) =>
          IH.out (c ++ [x.low + (i : Int)]) v4 (pre ++ partN x rest c i) w4 (by simp; omega) (HC1.out.keep (KS.of_below (nb := nb) hb4)) (Nat.le_trans hBw hb4.size) hv4 (HJ.out _ _ _ HJ1.out hb4) (by
            rw [show (c ++ [x.low + (i : Int)]).length = c.length + 1 by simp, ← HR.out, List.append_assoc, ← partN_succ]
            refine List.IsPrefix.trans ?_ HP.out
            exact (List.prefix_append_right_inj pre).2 (partN_pre x rest c (by omega))))
        rw [show (c ++ [x.low + (i : Int)]).length = c.length + 1 by simp, ← HR.out] at HIH
        have HICE := Lib.hid (fun (v4 : Value) (w4 : World) (base : Nat) (h : w4.ownsRow base 3 1 v4 (c.length + 1) (icell c ++ [.int .i64 (x.low + (i : Int))])) (hb : B ≤ base) => (show w4.ownsRow B 3 1 v4 (c.length + 1) (icell (c ++ [x.low + (i : Int)])) by
          rw [show icell (c ++ [x.low + (i : Int)]) = icell c ++ [.int .i64 (x.low + (i : Int))] by simp [icell]]
          exact ownsRow_base h hb))
        have HC4 := Lib.hid (fun (w4 w5 : World) (hb4 : Below wr.heap.size wr w4) (k5 : KS nb w4 w5) => HC1.out.keep ((KS.of_below (nb := nb) hb4).trans k5))
        clear hcc hlv1
        go_wp2_with fail
        go_region_held3 (fun w' => w'.cell? ⟨Fb, 0, none⟩ = some (.func (.func 69) #[] #[.pointer (some ⟨Gb, 0, none⟩), .pointer (some ⟨Yb, 0, none⟩), .pointer (some ⟨Fb, 0, none⟩)]))
          (go_keep)
          (first
            | (go_at_call 69; refine (HIH.out w4 v4 HB4.out HO4.out).mono ?_; rintro e w5 ⟨rfl, hJ5, hk5⟩; have hF5 := (HC4.out _ _ HB4.out hk5).f.cell; have HJ5 := Lib.hid hJ5; have HK5 := Lib.hid hk5; clear hJ5 hk5)
            | ((refine step_append_grows (by rfl) _ _ _ (by rfl) 3 j0 _ 1 8 Try.underlying34 hj hy0 hy1 hy2 rfl (by omega) ao' c.length c.length (icell c) (by rfl) hcn (by simp) (fun b e j u hu => Lib.cell?_alloc_some _ (HCC.out b e j u hu)) ⟨wr.heap.size, 0, none⟩ 1 1 [.int .i64 (x.low + (i : Int))] (by rfl) (by rfl) (World.news_of_block (cs := #[.int .i64 (x.low + (i : Int))]) (t := 3) (fr := (0, 0)) (heap_alloc_new wr _)) (by simp [Value.oneCell']) (by omega) (by unfold maxLen; omega) (by omega) ?_; intro v4 w4 hown4 hgrow4; have HB4 := Lib.hid ((((Below.refl wr.heap.size wr).alloc (Nat.le_refl _) _).drew).grown hgrow4 (by simp) (fun q e => by cases e)); have HO4 := Lib.hid (HICE.out v4 w4 _ hown4 (by simp; omega)); clear hown4; have cf4 := (HC4.out _ _ HB4.out (KS.refl _ _)).f.cell; clear hgrow4)))
        go_wp2_with fail
        refine ⟨⟨i + 1, by omega, ?_, ?_, HK1.out.trans ((KS.of_below HB4.out).trans HK5.out)⟩, ?_⟩
        · rw [show x.low + ((i + 1 : Nat) : Int) = x.low + (i : Int) + 1 by omega]
        · rw [partN_succ, ← List.append_assoc]; exact HJ5.out
        · simp [intOf] <;> omega
      · obtain rfl : i = widthN x := by omega
        have n1 : ¬ x.low + (widthN x : Int) ≤ x.high := by omega
        go_wp2_with fail
        go_ret
        exact ⟨rfl, HJ1.out, (KS.of_below HAL.out).trans HK1.out⟩
end Go.Proofs.Ytpjllppbpnkemaa

/- A range over a function whose values lie in memory, with a body that goes on at every round; the iterator of the choices. -/
namespace Go.Proofs.Ytpjllppbpnkemaa
open Go.RowKit Go.Sort Go.Shelf
attribute [local go_sem] Oper.semAt_some

/-- The iterator value '.func (.func g) #[] lb', made by the time w: called in any later world it yields values that stand for the items in order (Gv), each round keeping 'Keep'. -/
def IterV (P : Program) (g : Nat) (lb : Array Value) (Gv : Value → List Int → World → Prop) (Keep : World → World → Prop) (items : List (List Int)) (w : World) : Prop :=
  ∀ (n l : Nat) (J : List (List Int) → World → Prop) (W : World), Below w.heap.size w W →
    (∀ s A C, J s A → Below A.heap.size A C → J s C) →
    (∀ pre c v W1, J pre W1 → pre ++ [c] <+: items → Gv v c W1 → YieldAt Fence.wide (n - 1) P l #[v] W1 fun e W' => e = .returned (.bool true) ∧ J (pre ++ [c]) W' ∧ Keep W1 W') →
    J [] W →
    CallsIn Fence.wide n P g (#[.func (.yield l) #[] #[]] ++ lb) W fun e W' => (∃ v, e = .returned v) ∧ J items W'
/-- How the body of a round may be left. -/
def bodyPostV (B : Nat) (Keep : World → World → Prop) (I : List (List Int) → World → Prop) (xs : List (List Int)) (W : World) : Exit → Act → World → Prop
  | .normal, _, W' => KeepsFrom B W W' ∧ Keep W W' ∧ I xs W'
  | _, _, _ => False
theorem range_vals {P : Program} {n : Nat} {g : Operand} {ps : Array Tmp} {assign body : Code} {Q : Exit → Act → World → Prop} {a : Act} {w : World}
    {gf : Nat} {lb : Array Value} (hg : a.eval g = .func (.func gf) #[] lb) (eg : ∀ args w, (callFunc gf args).run P w = .ok (.enter gf args) w)
    {Gv : Value → List Int → World → Prop} {Keep : World → World → Prop} {items : List (List Int)} {w0 : World} (hit : IterV P gf lb Gv Keep items w0)
    (hb0 : Below w0.heap.size w0 w) (hps : 1 = ps.size)
    (hGp : ∀ (v : Value) (c : List Int) (W : World) (l : Nat) (o o' : Obj), Gv v c W → W.heap[l]? = some o → o.isCells = false → Gv v c (W.putObj l o'))
    (hKt : ∀ {A B C : World}, Keep A B → Keep B C → Keep A C)
    (hKb : ∀ (W : World) (l : Nat) (o o' : Obj), w.heap.size ≤ l → W.heap[l]? = some o → o.isCells = false → Keep W (W.putObj l o'))
    (I : List (List Int) → World → Prop)
    (hIp : AbidesPut w.heap.size I)
    (hIs : ∀ s A B, I s A → Below A.heap.size A B → I s B)
    (h0 : ∀ o1 o2, o1.isCells = false → o2.isCells = false → I [] ((w.alloc o1).alloc o2)) (a₁ : Value → Act)
    (hassign : ∀ (l : Nat) (x : Value) (W : World) (K : Act → World → Prop), K (a₁ x) W →
      assign.wpIn (Fence.wide.inRound l) (n - 1 - 1) P (Exit.then K (fun _ _ _ => False)) { tmps := (ps.zip #[x]).foldl (fun t (p, v) => t.setIfInBounds p v) a.tmps, defers := [] } W)
    (hbody : ∀ (l : Nat) (pre : List (List Int)) (x : List Int) (v : Value) (W : World), I pre W → pre ++ [x] <+: items → Gv v x W → body.wpIn (Fence.wide.inRound l) (n - 1 - 1) P (bodyPostV w.heap.size Keep I (pre ++ [x]) W) (a₁ v) W)
    (hdone : ∀ (D : Nat) (W : World), w.heap.size ≤ D → I items W → W.heap[D]? = some (.deferred (some [])) → Q .normal { a with defers := { target := .collected D, args := #[] } :: a.defers } W) :
    (Code.rangeFunc g ps assign body).wpIn Fence.wide n P Q a w := by
  refine wpIn_rangeFunc ?_
  intro fn hfn
  obtain ⟨D, hD⟩ : ∃ D, D = w.heap.size := ⟨_, rfl⟩
  obtain ⟨rec, hrec⟩ : ∃ rec : LoopState → Option Code → Loop, rec = fun st pe => { state := st, pending := pe, fn, tmps := a.tmps, params := ps, assign, body, defers := D } := ⟨_, rfl⟩
  obtain ⟨W1, hW1⟩ : ∃ W1, (w.alloc (.deferred (some []))).alloc (.loop (rec .ready none)) = W1 := ⟨_, rfl⟩
  have hI1 : I [] W1 := hW1 ▸ h0 _ _ rfl rfl
  have hK1 : W1.heap[D]? = some (.deferred (some [])) := by
    rw [← hW1, hD]; exact (Below.heap_alloc _ _ _ (by simp)).trans (World.alloc_heap_new w _)
  have hL1 : W1.heap[D + 1]? = some (.loop (rec .ready none)) := by
    rw [← hW1, hD]; have := World.alloc_heap_new (w.alloc (.deferred (some []))) (.loop (rec .ready none)); rwa [World.size_alloc] at this
  have hb1 : Below w0.heap.size w0 W1 := by
    rw [← hW1]; exact hb0.trans ((((Below.refl _ w).alloc (Nat.le_refl _) _).alloc (by simp) _).mono hb0.size)
  refine ⟨D + 1, [{ target := .collected D, args := #[] }], W1, { target := .fn (.func gf) lb, args := #[.func (.yield (D + 1)) #[] #[]] }, W1, gf, #[.func (.yield (D + 1)) #[] #[]] ++ lb, W1, ?_, ?_, ?_, ?_, fun h => (by cases h), ?_⟩
  · rw [← hW1, hrec, hD]; exact run_enterLoop_outer _ _ _ _ _
  · simp only [resolve, hg]
    simp [go_sem]
  · intro f' _; trivial
  · simp [invoke, go_sem, eg]
  -- the book-keeping: the record and the block of deferred calls
  have mv : ∀ {A B : World} {k : Nat} {o : Obj}, Below A.heap.size A B → A.heap[k]? = some o → B.heap[k]? = some o := fun hs h => (hs.block _ (Array.getElem?_eq_some_iff.1 h).1).trans h
  refine (hit (n - 1) (D + 1)
    (fun pre W => I pre W ∧ W.heap[D + 1]? = some (.loop (rec .ready none)) ∧ W.heap[D]? = some (.deferred (some [])))
    W1 hb1
    (fun s A B hs st => ⟨hIs s A B hs.1 st, mv st hs.2.1, mv st hs.2.2⟩)
    ?round ⟨hI1, hL1, hK1⟩).mono ?behind
  case round =>
    rintro pre x v W ⟨hi, hl, hk⟩ hpre hgv
    have hlt : D + 1 < W.heap.size := (Array.getElem?_eq_some_iff.1 hl).1
    have hy := run_yield (P := P) (args := #[v]) hl (by rw [hrec]; exact hps)
    rw [hrec] at hy
    refine ⟨fn, _, assign, body, hy, roundIn_of_wpIn hfn (hassign _ v W _ ⟨_, run_beginRound hl (by rw [hrec]), ?_⟩)⟩
    obtain ⟨W2, hW2⟩ : ∃ W2, W.putObj (D + 1) (.loop { rec .ready none with state := .busy }) = W2 := ⟨_, rfl⟩
    have hl2 : W2.heap[D + 1]? = some (.loop { rec .ready none with state := .busy }) := hW2 ▸ World.putObj_heap_same hlt
    have hk2 : W2.heap[D]? = some (.deferred (some [])) := hW2 ▸ (World.putObj_heap_other (by omega)).trans hk
    have hi2 : I pre W2 := hW2 ▸ hIp pre W _ _ _ hi (by omega) hl rfl
    have hkp2 : Keep W W2 := hW2 ▸ hKb _ _ _ _ (by omega) hl rfl
    show body.wpIn _ _ _ _ _ (W.putObj (D + 1) (.loop { rec .ready none with state := .busy }))
    rw [hW2]
    have hgv2 : Gv v x W2 := hW2 ▸ hGp _ _ _ _ _ _ hgv hl rfl
    refine wpIn_mono (hbody _ pre x v _ hi2 hpre hgv2) ?_
    -- what the record is behind the round
    have fin : ∀ (jump : Option Code) (W3 : World), KeepsFrom w.heap.size W2 W3 →
        (Instr.endRound (D + 1) jump).run P W3 = .ok (.bool jump.isNone) (W3.putObj (D + 1) (.loop (rec (if jump.isNone then .ready else .done) jump))) ∧
        W3.heap[D + 1]? = some (.loop { rec .ready none with state := .busy }) ∧
        (W3.putObj (D + 1) (.loop (rec (if jump.isNone then .ready else .done) jump))).heap[D + 1]? = some (.loop (rec (if jump.isNone then .ready else .done) jump)) ∧
        (W3.putObj (D + 1) (.loop (rec (if jump.isNone then .ready else .done) jump))).heap[D]? = some (.deferred (some [])) := fun jump W3 hk3 => by
      have hl3 := hk3.same _ _ (by omega) hl2 rfl
      have hr := run_endRound (P := P) jump hl3
      rw [hrec] at hr hl3 ⊢
      exact ⟨hr, hl3, World.putObj_heap_same (Array.getElem?_eq_some_iff.1 hl3).1, (World.putObj_heap_other (by omega)).trans (hk3.same _ _ (by omega) hk2 rfl)⟩
    rintro e a3 W3 hp
    cases e with
    | normal =>
      obtain ⟨hk3, hkp3, hi3⟩ := hp
      obtain ⟨hr, hl3, hl4, hk4⟩ := fin none W3 hk3
      exact ⟨_, _, hr, rfl, ⟨hIp _ _ _ _ _ hi3 (by omega) hl3 rfl, hl4, hk4⟩, hKt (hKt hkp2 hkp3) (hKb _ _ _ _ (by omega) hl3 rfl)⟩
    | ret => exact hp.elim
    | exit id => exact hp.elim
    | goto t => exact hp.elim
    | panic ch => exact hp.elim
    | outgrown => exact hp.elim
  case behind =>
    rintro e W2 ⟨⟨v, rfl⟩, hi, hl, hk⟩
    refine ⟨none, _, ?_, hdone D _ (by omega) (hIp _ _ _ _ (.loop (rec .exhausted none)) hi (by omega) hl rfl) ((World.putObj_heap_other (by omega)).trans hk)⟩
    have hr := run_endLoop (P := P) hl (by rw [hrec]; simp)
    rw [hrec] at hr ⊢
    exact hr

theorem all_p (v : Value) (w : World) (hv : ∃ a n c, v = .slice a n c) :
    Calls Try.prog 50 #[v] w fun e w' => e = .returned (.func (.func 68) #[] #[.pointer (some ⟨w.heap.size, 0, none⟩)]) ∧ w' = w.alloc (.cells #[v] 22) := by
  obtain ⟨a, n, c, rfl⟩ := hv
  go_enter Try.func50, Try.ntmps50
  go_wp2_with fail
  go_ret
  exact ⟨rfl, rfl⟩
set_option maxRecDepth 100000 in
set_option maxHeartbeats 4000000 in
theorem all_iter (Gb B : Nat) (nb : Option Nat) (hnb : ∀ k, nb = some k → k < B) (gv : Value) (gs : List El) (hg : OkG gs) (w : World) (hB : B ≤ w.heap.size) (hbox : Boxed w Gb 22 gv) (hr : w.ownsRow 0 64 7 gv gs.length (pcells gs)) :
    IterV Try.prog 68 #[.pointer (some ⟨Gb, 0, none⟩)] (fun v c W => W.ownsRow B 3 1 v c.length (icell c)) (KS nb) (lexN gs []) w := by
  intro n l J W hW hJ hY h0
  obtain ⟨fv, hfv⟩ : ∃ fv : Value, fv = .func (.func 69) #[] #[.pointer (some ⟨Gb, 0, none⟩), .pointer (some ⟨W.heap.size, 0, none⟩), .pointer (some ⟨W.heap.size + 1, 0, none⟩)] := ⟨_, rfl⟩
  have b0 : Boxed ((W.alloc (.cells #[.func (.yield l) #[] #[]] 103)).alloc (.cells #[fv] 103)) (W.heap.size + 1) 103 fv := by
    have := Boxed.new (W.alloc (.cells #[.func (.yield l) #[] #[]] 103)) 103 fv
    rwa [World.size_alloc] at this
  have bel : Below W.heap.size W ((W.alloc (.cells #[.func (.yield l) #[] #[]] 103)).alloc (.cells #[fv] 103)) := ((Below.refl _ _).alloc (Nat.le_refl _) _).alloc (by simp) _
  have hgb : Boxed W Gb 22 gv := (hW.block _ hbox.lt).trans hbox
  have ctx : Ctx ((W.alloc (.cells #[.func (.yield l) #[] #[]] 103)).alloc (.cells #[fv] 103)) Gb W.heap.size (W.heap.size + 1) l gv gs := by
    refine ⟨(hgb.alloc _).alloc _, (Boxed.new W _ _).alloc _, ?_, ?_⟩
    · rw [← hfv]; exact b0
    · exact ownsRow_below (ownsRow_below hr hW) bel
  have K := from_in n l Gb W.heap.size (W.heap.size + 1) B nb hnb gv gs hg (lexN gs []) J hJ hY gs.length [] (.slice none 0 0) [] _ (by simp) ctx (by have := hW.size; have := bel.size; omega) (World.ownsRow_nil _ _ _ _) (hJ _ _ _ h0 bel) (by simp)
  have KK := Lib.hid K
  have c1 := b0.cell
  rw [hfv] at c1 KK
  clear K hY hJ hbox hr ctx bel hgb h0 hW hfv b0
  refine callsIn_wide.2 ?_
  go_enter Try.func68, Try.ntmps68
  go_wp2_with fail
  refine KK.out.mono ?_
  rintro e w5 ⟨rfl, hJ5, _⟩
  go_wp2_with fail
  go_end0
  exact ⟨⟨_, rfl⟩, hJ5⟩
end Go.Proofs.Ytpjllppbpnkemaa

/- How many positions the lines of a pattern have: plain part. -/
namespace Go.Proofs.Ytpjllppbpnkemaa
open Go.RowKit Go.Sort Go.Shelf

theorem rangeI_mem {x : El} {k : Int} (h : k ∈ rangeI x (widthN x)) : x.low ≤ k ∧ k ≤ x.high := by
  unfold rangeI widthN at h
  obtain ⟨i, hi, rfl⟩ := List.mem_map.1 h
  rw [List.mem_range] at hi
  omega
/-- the choices are numbers of the gaps -/
theorem lexN_mem : ∀ {g : List El} {c d : List Int}, d ∈ lexN g c → ∃ s, d = c ++ s ∧ s.length = g.length ∧ ∀ i (h : i < g.length) (h' : i < s.length), g[i].low ≤ s[i] ∧ s[i] ≤ g[i].high
  | [], c, d, h => by
    have : d = c := by simpa [lexN] using h
    exact ⟨[], by simp [this], rfl, fun i h => absurd h (by simp)⟩
  | x :: g, c, d, h => by
    obtain ⟨k, hk, hd⟩ := List.mem_flatMap.1 (show d ∈ (rangeI x (widthN x)).flatMap fun n => lexN g (c ++ [n]) from h)
    obtain ⟨s, h1, h2, h3⟩ := lexN_mem hd
    refine ⟨k :: s, by rw [h1]; simp, by simp [h2], fun i hi hi' => ?_⟩
    cases i with
    | zero => exact rangeI_mem hk
    | succ i => exact h3 i (by simpa using hi) (by simpa using hi')
theorem lexN_small {g : List El} (hg : OkG g) {d : List Int} (h : d ∈ lexN g []) : Small d ∧ d.length = g.length := by
  obtain ⟨s, h1, h2, h3⟩ := lexN_mem h
  rw [List.nil_append] at h1
  subst h1
  refine ⟨⟨by have := hg.1; omega, fun x hx => ?_⟩, h2⟩
  obtain ⟨i, hi, rfl⟩ := List.mem_iff_getElem.1 hx
  have h4 := h3 i (by omega) hi
  have h5 := (hg.2 g[i] (List.getElem_mem _)).2
  omega
theorem lexN_len (g : List El) : ∀ c, ((lexN g c).length : Int) = (g.map fun x => (widthN x : Int)).foldr (· * ·) 1 := by
  induction g with
  | nil => intro c; rfl
  | cons x g ih =>
    intro c
    have key : ∀ l : List Int, ((l.flatMap fun n => lexN g (c ++ [n])).length : Int) = (l.length : Int) * (g.map fun x => (widthN x : Int)).foldr (· * ·) 1 := by
      intro l
      induction l with
      | nil => simp
      | cons a l ihl =>
        rw [List.flatMap_cons, List.length_append, Int.natCast_add, ihl, ih, List.length_cons, Int.natCast_add, Int.add_mul]
        omega
    show (((rangeI x (widthN x)).flatMap fun n => lexN g (c ++ [n])).length : Int) = _
    rw [key]
    simp [rangeI]
theorem foldl_mul (l : List Int) : ∀ a : Int, l.foldl (· * ·) a = a * l.foldr (· * ·) 1 := by
  induction l with
  | nil => intro a; simp
  | cons x l ih => intro a; rw [List.foldl_cons, ih, List.foldr_cons, Int.mul_assoc]
theorem lexN_count {g : List El} (hg : OkG g) : ((lexN g []).length : Int) = prodTo g g.length := by
  rw [lexN_len]
  unfold prodTo
  rw [List.take_length, foldl_mul, Int.one_mul]
  congr 1
  refine List.map_congr_left fun x hx => ?_
  have := (hg.2 x hx).2
  unfold widthN widthOf
  omega
/-- the positions of the first choices -/
def sumTo (k : Int) (l : List (List Int)) : Int := (l.map fun c => k + c.sum).sum
theorem sumTo_snoc (k : Int) (l : List (List Int)) (c : List Int) : sumTo k (l ++ [c]) = sumTo k l + (k + c.sum) := by simp [sumTo]
theorem sumTo_in {k : Int} (hk : 0 ≤ k ∧ k ≤ 512) : ∀ {l : List (List Int)}, (∀ c ∈ l, Small c) → 0 ≤ sumTo k l ∧ sumTo k l ≤ 8704 * (l.length : Int)
  | [], _ => by simp [sumTo]
  | c :: l, h => by
    have ih := sumTo_in hk (l := l) (fun d hd => h d (List.mem_cons_of_mem c hd))
    have hc := h c (by simp)
    have hs := hc.sum_in c.length (Nat.le_refl _)
    rw [List.take_length] at hs
    have h1 := hc.1
    have e : sumTo k (c :: l) = (k + c.sum) + sumTo k l := by simp [sumTo]
    rw [e, List.length_cons, Int.natCast_add]
    omega
def ownOf (p : List El) : Int := (p.length : Int) - ((gapsV p).length : Int)
theorem ownOf_in {p : List El} (h : OkP p) : 0 ≤ ownOf p ∧ ownOf p ≤ 512 := by
  have h1 := h.le
  have h2 : (gapsV p).length ≤ p.length := List.length_filter_le _ _
  unfold ownOf
  omega
def posSum (p : List El) : Int := sumTo (ownOf p) (lexN (gapsV p) [])
def posE (p : List El) : Int := if cntE p ≠ 0 then cntE p else if 256 < posSum p then 3 else 0
def posV (p : List El) : Int := if posE p = 0 then posSum p else 0
theorem posE_ok {p : List El} (h : posE p = 0) : cntE p = 0 ∧ posSum p ≤ 256 := by
  unfold posE at h
  by_cases h1 : cntE p ≠ 0
  · rw [if_pos h1] at h; exact absurd h h1
  · rw [if_neg h1] at h
    by_cases h2 : 256 < posSum p
    · rw [if_pos h2] at h; exact absurd h (by decide)
    · exact ⟨by simpa using h1, by omega⟩
def PosP (p : List El) (w : World) (e : Ending) (w' : World) : Prop := e = .returned (.tuple #[.int .i64 (posV p), .int .i64 (posE p)]) ∧ Below w.heap.size w w'
end Go.Proofs.Ytpjllppbpnkemaa

/- A region that draws its order, within a round: what its loads read is held for the whole region. -/
namespace Go.Proofs.Ytpjllppbpnkemaa
open Go.RowKit Go.Sort Go.Shelf

theorem uponIn_of_upon {r n : Nat} {P : Program} {o : Oper} {a : Act} {K K' : Act → World → Prop} {Q : Exit → Act → World → Prop} (hK : ∀ a w, K a w → K' a w) :
    ∀ x, o.upon P a K Q x → o.uponIn (Fence.wide.inRound r) n P a K' Q x := by
  intro x h
  cases x with
  | ok nx w' =>
    cases nx with
    | value v => exact hK _ _ h
    | skip => exact hK _ _ h
    | defer d => exact hK _ _ h
    | enter f args =>
      refine ⟨fun e => (by cases e), CallsIn.inRound r (callsIn_wide.2 (Calls.mono h fun e w'' => ?_))⟩
      cases e with
      | returned v => exact hK _ _
      | panicked c => exact id
      | outgrown => exact id
    | row row args =>
      refine ⟨fun e => (by cases e), fun c cs _ => ?_⟩
      obtain ⟨v, w'', h1, h2⟩ := h c cs
      exact ⟨v, w'', hK _ _ h1, stepsIn_wide.2 h2⟩
    | _ => first | exact h.elim | exact h
  | halt hl w' =>
    cases hl with
    | panic v => exact h
    | _ => first | exact h.elim | exact h
def noDefer (ops : Array Oper) : Bool := ops.all fun o => match o.op with | .defer _ => false | _ => true
theorem noDefer_at {ops : Array Oper} (h : noDefer ops = true) {i : Nat} {o : Oper} (ho : ops[i]? = some o) : ∀ c, o.op ≠ .defer c := by
  intro c e
  unfold noDefer at h
  rw [Array.all_eq_true'] at h
  have := h o (Array.mem_of_getElem? ho)
  rw [e] at this
  cases this
theorem operIn_of_oper {r n : Nat} {P : Program} {o : Oper} {a : Act} {w : World} {K K' : Act → World → Prop} {Q : Exit → Act → World → Prop} (hd : ∀ c, o.op ≠ .defer c) (hK : ∀ a w, K a w → K' a w) (h : o.wp P a w K Q) : o.wpIn (Fence.wide.inRound r) n P a w K' Q := by
  refine ⟨fun f _ => trivial, ?_⟩
  show o.uponIn _ n P a K' Q ((o.semAt (some r) a.eval).run P w)
  rw [Oper.semAt_some _ _ _ hd]
  exact uponIn_of_upon hK _ h
theorem anyIn_of_any {r n : Nat} {P : Program} {md : Region.Mode} {ops : Array Oper} {Q : Exit → Act → World → Prop} (hd : noDefer ops = true) (hL : ¬ LetsOut Q) :
    ∀ (fuel : Nat) (listed : Array Bool) (a : Act) (w : World), wpAny P md ops Q fuel listed a w → wpAnyIn (Fence.wide.inRound r) n P md ops Q fuel listed a w
  | 0, _, _, _, h => h
  | fuel + 1, listed, a, w, h => by
    refine ⟨h.1, fun i hi => ?_⟩
    have h2 := h.2 i hi
    unfold wpOp at h2
    unfold wpOpIn
    cases ho : ops[i]? with
    | none => rw [ho] at h2; exact anyIn_of_any hd hL fuel _ _ _ h2
    | some o =>
      rw [ho] at h2
      simp only at h2 ⊢
      by_cases hw : Region.wanted o (yielded ops a.tmps) = true
      · rw [if_pos hw] at h2 ⊢
        rcases h2 with h2 | ⟨_, h2⟩
        · exact operIn_of_oper (noDefer_at hd ho) (fun a w => anyIn_of_any hd hL fuel _ a w) h2
        · exact absurd h2 hL
      · rw [if_neg hw] at h2 ⊢
        exact ⟨fun f _ => trivial, anyIn_of_any hd hL fuel _ _ _ h2⟩
/-- a region that draws its order, in a round: S is held -/
theorem region_round {r n id : Nat} {P : Program} {ops : Array Oper} {Q : Exit → Act → World → Prop} {a : Act} {w : World} (S : World → Prop) (hm : P.follows .mixedOrders = true) (hd : noDefer ops = true) (hL : ¬ LetsOut Q) (hS : S w.drew)
    (h : S w.drew → wpAnyH P .any ops Q S ops.size (Array.replicate ops.size false) a w.drew) : (Code.region id ops true).wpIn (Fence.wide.inRound r) n P Q a w :=
  wpIn_region_any hm (anyIn_of_any hd hL _ _ _ _ (wpAny_of_held _ _ _ _ (h hS)))
theorem held_take {P : Program} {md : Region.Mode} {ops : Array Oper} {Q : Exit → Act → World → Prop} {S : World → Prop} {i : Nat} {oi : Oper} {v : Value} {fuel : Nat} {listed : Array Bool} {a : Act} {w : World} (d : Option Tmp)
    (hi : ops[i]? = some oi) (hd : oi.dst = d) (hs : Region.noSelect ops = true) (hf : Region.free md ops listed i = true) (hr : (Region.ready md ops listed).contains i = true)
    (hQ : ∀ c a w, Q (.panic c) (a.put d v) w → Q (.panic c) a w) (hy : YieldsIf P ops S oi v a) (hS : S w)
    (h : wpAnyH P md ops Q S fuel (listed.setIfInBounds i true) (a.put d v) w) : wpAnyH P md ops Q S (fuel + 1) listed a w := by
  subst hd
  exact wpAnyH_take hi hs hf hr hQ hy hS h
end Go.Proofs.Ytpjllppbpnkemaa
