/- Texts that the claims share, part 2. -/
import Derived.Shelf.SlIterI.Nil
import Derived.Shelf.SortM.Plain
import Derived.Shelf.SortM.SortNone
import Derived.Shelf.SlSortCmp.NoneTotal
import Derived.Ground.GgzProg
import Derived.Ground.SlgmProg
import Derived.Ground.SlsfProg
import Derived.Test.YtafdaiidnphbaaaProg
import Derived.Test.YtafdaiidnphbaaaMg1
import Derived.Maps.OwnSet
import Derived.Maps.OwnOps
import Derived.Carry
import Derived.OwnWalk

/- Library functions at this seat: the shelf layings in plain words (printed by wip/tools/lay.sh; the numbers are this seat's). -/
namespace Go.Proofs.Ytafdaiidnphbaaa
open Go.Shelf
def keysL_ren : Go.Shelf.Ren := ⟨fun | 7 => 68 | 10 => 87 | n => n, fun | 23 => 101 | 26 => 3 | 3 => 4 | 28 => 72 | 0 => 0 | 27 => 71 | 33 => 91 | 4 => 4 | n => n, fun | n => n⟩
theorem keysL : Go.Proofs.SlLaysZI.n7 Try.prog keysL_ren := {
  mixed := by kernel_rfl
  f7 := ⟨Try.f68.name, by decide, Try.func68.trans (congrArg some (by kernel_rfl))⟩
  f10 := ⟨Try.f87.name, by decide, Try.func87.trans (congrArg some (by kernel_rfl))⟩
  t0 := Try.underlying0
  a0 := Try.isAgg0
  z0 := Try.sizeOf0
  v0 := Try.zeroValue0
  t4 := Try.underlying4
  a4 := Try.isAgg4
  z4 := Try.sizeOf4
  v4 := Try.zeroValue4
  t23 := Try.underlying101
  a23 := Try.isAgg101
  z23 := Try.sizeOf101
  v23 := Try.zeroValue101
  t26 := Try.underlying3
  a26 := Try.isAgg3
  z26 := Try.sizeOf3
  v26 := Try.zeroValue3
  t27 := Try.underlying71
  a27 := Try.isAgg71
  z27 := Try.sizeOf71
  v27 := Try.zeroValue71
  t28 := Try.underlying72
  a28 := Try.isAgg72
  z28 := Try.sizeOf72
  v28 := Try.zeroValue72
  t33 := Try.underlying91
  a33 := Try.isAgg91
  z33 := Try.sizeOf91
  v33 := Try.zeroValue91 }
def sortedL_ren : Go.Shelf.Ren := ⟨fun | 6 => 67 | 8 => 85 | 9 => 86 | 11 => 96 | 13 => 62 | 12 => 97 | 23 => 82 | 24 => 83 | 14 => 99 | 15 => 100 | 16 => 101 | 17 => 102 | 18 => 103 | 19 => 104 | 20 => 105 | 21 => 106 | 22 => 107 | 25 => 108 | 26 => 92 | 27 => 93 | 28 => 109 | 29 => 110 | 30 => 84 | 31 => 111 | n => n, fun | 26 => 3 | 28 => 72 | 24 => 28 | 0 => 0 | 3 => 3 | 37 => 95 | 48 => 121 | 50 => 66 | 4 => 4 | 40 => 114 | 39 => 113 | 45 => 118 | 5 => 5 | 9 => 9 | 51 => 129 | 55 => 133 | 57 => 137 | 58 => 138 | 33 => 91 | n => n, fun | n => n⟩
theorem sortedL : Go.Proofs.SlLaysZI.n6 Try.prog sortedL_ren := {
  mixed := by kernel_rfl
  f6 := ⟨Try.f67.name, by decide, Try.func67.trans (congrArg some (by kernel_rfl))⟩
  f8 := ⟨Try.f85.name, by decide, Try.func85.trans (congrArg some (by kernel_rfl))⟩
  f11 := ⟨Try.f96.name, by decide, Try.func96.trans (congrArg some (by kernel_rfl))⟩
  t0 := Try.underlying0
  a0 := Try.isAgg0
  z0 := Try.sizeOf0
  v0 := Try.zeroValue0
  t24 := Try.underlying28
  a24 := Try.isAgg28
  z24 := Try.sizeOf28
  v24 := Try.zeroValue28
  t26 := Try.underlying3
  a26 := Try.isAgg3
  z26 := Try.sizeOf3
  v26 := Try.zeroValue3
  t28 := Try.underlying72
  a28 := Try.isAgg72
  z28 := Try.sizeOf72
  v28 := Try.zeroValue72
  i26 := by kernel_rfl }
def sortL_ren : Go.Shelf.Ren := ⟨fun | 5 => 86 | 8 => 62 | 7 => 97 | 19 => 82 | 20 => 83 | 10 => 99 | 11 => 100 | 12 => 101 | 13 => 102 | 14 => 103 | 15 => 104 | 16 => 105 | 17 => 106 | 18 => 107 | 30 => 108 | 31 => 92 | 32 => 93 | 33 => 109 | 34 => 110 | 35 => 84 | 40 => 111 | n => n, fun | 23 => 28 | 25 => 3 | 3 => 3 | 32 => 95 | 22 => 28 | 0 => 0 | 44 => 121 | 46 => 66 | 4 => 4 | 36 => 114 | 35 => 113 | 41 => 118 | 5 => 5 | 9 => 9 | 53 => 129 | 57 => 133 | 63 => 137 | 64 => 138 | n => n, fun | n => n⟩
theorem sortL : Go.Proofs.SlLaysM.n5 Try.prog sortL_ren := {
  mixed := by kernel_rfl
  f5 := ⟨Try.f86.name, by decide, Try.func86.trans (congrArg some (by kernel_rfl))⟩
  f7 := ⟨Try.f97.name, by decide, Try.func97.trans (congrArg some (by kernel_rfl))⟩
  f8 := Try.func62.trans (congrArg some (by kernel_rfl))
  f10 := ⟨Try.f99.name, by decide, Try.func99.trans (congrArg some (by kernel_rfl))⟩
  f11 := ⟨Try.f100.name, by decide, Try.func100.trans (congrArg some (by kernel_rfl))⟩
  f12 := ⟨Try.f101.name, by decide, Try.func101.trans (congrArg some (by kernel_rfl))⟩
  f13 := ⟨Try.f102.name, by decide, Try.func102.trans (congrArg some (by kernel_rfl))⟩
  f14 := ⟨Try.f103.name, by decide, Try.func103.trans (congrArg some (by kernel_rfl))⟩
  f15 := ⟨Try.f104.name, by decide, Try.func104.trans (congrArg some (by kernel_rfl))⟩
  f16 := ⟨Try.f105.name, by decide, Try.func105.trans (congrArg some (by kernel_rfl))⟩
  f17 := ⟨Try.f106.name, by decide, Try.func106.trans (congrArg some (by kernel_rfl))⟩
  f18 := ⟨Try.f107.name, by decide, Try.func107.trans (congrArg some (by kernel_rfl))⟩
  f19 := Try.func82.trans (congrArg some (by kernel_rfl))
  f20 := Try.func83.trans (congrArg some (by kernel_rfl))
  f30 := ⟨Try.f108.name, by decide, Try.func108.trans (congrArg some (by kernel_rfl))⟩
  f31 := Try.func92.trans (congrArg some (by kernel_rfl))
  f32 := Try.func93.trans (congrArg some (by kernel_rfl))
  f33 := ⟨Try.f109.name, by decide, Try.func109.trans (congrArg some (by kernel_rfl))⟩
  f34 := ⟨Try.f110.name, by decide, Try.func110.trans (congrArg some (by kernel_rfl))⟩
  f35 := ⟨Try.f84.name, by decide, Try.func84.trans (congrArg some (by kernel_rfl))⟩
  f40 := ⟨Try.f111.name, by decide, Try.func111.trans (congrArg some (by kernel_rfl))⟩
  t0 := Try.underlying0
  a0 := Try.isAgg0
  z0 := Try.sizeOf0
  v0 := Try.zeroValue0
  t3 := Try.underlying3
  a3 := Try.isAgg3
  z3 := Try.sizeOf3
  v3 := Try.zeroValue3
  t4 := Try.underlying4
  a4 := Try.isAgg4
  z4 := Try.sizeOf4
  v4 := Try.zeroValue4
  t5 := Try.underlying5
  a5 := Try.isAgg5
  z5 := Try.sizeOf5
  v5 := Try.zeroValue5
  t9 := Try.underlying9
  a9 := Try.isAgg9
  z9 := Try.sizeOf9
  v9 := Try.zeroValue9
  t22 := Try.underlying28
  a22 := Try.isAgg28
  z22 := Try.sizeOf28
  v22 := Try.zeroValue28
  t23 := Try.underlying28
  a23 := Try.isAgg28
  z23 := Try.sizeOf28
  v23 := Try.zeroValue28
  t25 := Try.underlying3
  a25 := Try.isAgg3
  z25 := Try.sizeOf3
  v25 := Try.zeroValue3
  t32 := Try.underlying95
  a32 := Try.isAgg95
  z32 := Try.sizeOf95
  v32 := Try.zeroValue95
  t35 := Try.underlying113
  a35 := Try.isAgg113
  z35 := Try.sizeOf113
  v35 := Try.zeroValue113
  t36 := Try.underlying114
  a36 := Try.isAgg114
  z36 := Try.sizeOf114
  v36 := Try.zeroValue114
  t41 := Try.underlying118
  a41 := Try.isAgg118
  z41 := Try.sizeOf118
  v41 := Try.zeroValue118
  t44 := Try.underlying121
  a44 := Try.isAgg121
  z44 := Try.sizeOf121
  v44 := Try.zeroValue121
  t46 := Try.underlying66
  a46 := Try.isAgg66
  z46 := Try.sizeOf66
  v46 := Try.zeroValue66
  t53 := Try.underlying129
  a53 := Try.isAgg129
  z53 := Try.sizeOf129
  v53 := Try.zeroValue129
  t57 := Try.underlying133
  a57 := Try.isAgg133
  z57 := Try.sizeOf133
  v57 := Try.zeroValue133
  t63 := Try.underlying137
  a63 := Try.isAgg137
  z63 := Try.sizeOf137
  v63 := Try.zeroValue137
  t64 := Try.underlying138
  a64 := Try.isAgg138
  z64 := Try.sizeOf138
  v64 := Try.zeroValue138 }
def sfuncL_ren : Go.Shelf.Ren := ⟨fun | 6 => 40 | 15 => 62 | 14 => 61 | 28 => 82 | 29 => 83 | 20 => 74 | 21 => 75 | 22 => 76 | 23 => 77 | 24 => 78 | 25 => 79 | 26 => 80 | 27 => 81 | 46 => 91 | 47 => 92 | 48 => 93 | 49 => 94 | 50 => 95 | 57 => 98 | n => n, fun | 22 => 34 | 24 => 38 | 25 => 75 | 3 => 3 | 39 => 95 | 0 => 0 | 53 => 121 | 55 => 66 | 4 => 4 | 46 => 114 | 45 => 113 | 50 => 118 | 5 => 5 | 9 => 9 | 66 => 129 | 70 => 133 | 76 => 137 | 77 => 138 | n => n, fun | n => n⟩
theorem sfuncL : Go.Proofs.SlLaysF0.n6 Try.prog sfuncL_ren := {
  mixed := by kernel_rfl
  f6 := ⟨Try.f40.name, by decide, Try.func40.trans (congrArg some (by kernel_rfl))⟩
  f14 := ⟨Try.f61.name, by decide, Try.func61.trans (congrArg some (by kernel_rfl))⟩
  f15 := Try.func62.trans (congrArg some (by kernel_rfl))
  f20 := ⟨Try.f74.name, by decide, Try.func74.trans (congrArg some (by kernel_rfl))⟩
  f21 := ⟨Try.f75.name, by decide, Try.func75.trans (congrArg some (by kernel_rfl))⟩
  f22 := ⟨Try.f76.name, by decide, Try.func76.trans (congrArg some (by kernel_rfl))⟩
  f23 := ⟨Try.f77.name, by decide, Try.func77.trans (congrArg some (by kernel_rfl))⟩
  f24 := ⟨Try.f78.name, by decide, Try.func78.trans (congrArg some (by kernel_rfl))⟩
  f25 := ⟨Try.f79.name, by decide, Try.func79.trans (congrArg some (by kernel_rfl))⟩
  f26 := ⟨Try.f80.name, by decide, Try.func80.trans (congrArg some (by kernel_rfl))⟩
  f27 := ⟨Try.f81.name, by decide, Try.func81.trans (congrArg some (by kernel_rfl))⟩
  f28 := Try.func82.trans (congrArg some (by kernel_rfl))
  f29 := Try.func83.trans (congrArg some (by kernel_rfl))
  f46 := ⟨Try.f91.name, by decide, Try.func91.trans (congrArg some (by kernel_rfl))⟩
  f47 := Try.func92.trans (congrArg some (by kernel_rfl))
  f48 := Try.func93.trans (congrArg some (by kernel_rfl))
  f49 := ⟨Try.f94.name, by decide, Try.func94.trans (congrArg some (by kernel_rfl))⟩
  f50 := ⟨Try.f95.name, by decide, Try.func95.trans (congrArg some (by kernel_rfl))⟩
  f57 := ⟨Try.f98.name, by decide, Try.func98.trans (congrArg some (by kernel_rfl))⟩
  t0 := Try.underlying0
  a0 := Try.isAgg0
  z0 := Try.sizeOf0
  v0 := Try.zeroValue0
  t3 := Try.underlying3
  a3 := Try.isAgg3
  z3 := Try.sizeOf3
  v3 := Try.zeroValue3
  t4 := Try.underlying4
  a4 := Try.isAgg4
  z4 := Try.sizeOf4
  v4 := Try.zeroValue4
  t5 := Try.underlying5
  a5 := Try.isAgg5
  z5 := Try.sizeOf5
  v5 := Try.zeroValue5
  t9 := Try.underlying9
  a9 := Try.isAgg9
  z9 := Try.sizeOf9
  v9 := Try.zeroValue9
  t22 := Try.underlying34
  a22 := Try.isAgg34
  z22 := Try.sizeOf34
  v22 := Try.zeroValue34
  t25 := Try.underlying75
  a25 := Try.isAgg75
  z25 := Try.sizeOf75
  v25 := Try.zeroValue75
  t39 := Try.underlying95
  a39 := Try.isAgg95
  z39 := Try.sizeOf95
  v39 := Try.zeroValue95
  t45 := Try.underlying113
  a45 := Try.isAgg113
  z45 := Try.sizeOf113
  v45 := Try.zeroValue113
  t46 := Try.underlying114
  a46 := Try.isAgg114
  z46 := Try.sizeOf114
  v46 := Try.zeroValue114
  t50 := Try.underlying118
  a50 := Try.isAgg118
  z50 := Try.sizeOf118
  v50 := Try.zeroValue118
  t53 := Try.underlying121
  a53 := Try.isAgg121
  z53 := Try.sizeOf121
  v53 := Try.zeroValue121
  t55 := Try.underlying66
  a55 := Try.isAgg66
  z55 := Try.sizeOf66
  v55 := Try.zeroValue66
  t66 := Try.underlying129
  a66 := Try.isAgg129
  z66 := Try.sizeOf129
  v66 := Try.zeroValue129
  t70 := Try.underlying133
  a70 := Try.isAgg133
  z70 := Try.sizeOf133
  v70 := Try.zeroValue133
  t76 := Try.underlying137
  a76 := Try.isAgg137
  z76 := Try.sizeOf137
  v76 := Try.zeroValue137
  t77 := Try.underlying138
  a77 := Try.isAgg138
  z77 := Try.sizeOf138
  v77 := Try.zeroValue138 }
end Go.Proofs.Ytafdaiidnphbaaa

/- A map from counts to true, as a set of counts up to 16. -/
namespace Go.Proofs.Ytafdaiidnphbaaa
open Go.RowKit Go.Sort Go.Maps Go.ChangeMaps Go.MapKept
open Go.WideElems (Fit rd rg pl rd_val elemAt)

abbrev DU := DataW Unit
/-- an entry says of a count up to 16 that it is there -/
def EntryOk (p : Lit × DU) : Prop := ∃ c : Nat, p.1 = .int .i64 (c : Int) ∧ c ≤ 16 ∧ p.2 = .lit (.bool true)
def AllOk (D : DU) : Prop := ∃ es, D = .map es ∧ ∀ p ∈ es, EntryOk p
noncomputable def RB : Value → Option (DU × List MemPlace) := plainElem Try.prog 4
/-- block b is a map that holds the counts of S -/
def MapIs (w : World) (b : Nat) (S : Nat → Bool) : Prop :=
  ∃ D : DU, w.ownsMap Try.prog 3 RB b (size D) D ∧ AllOk D ∧ ∀ c : Nat, has D (.int .i64 (c : Int)) = S c

theorem keyed : Keyed Try.prog 3 := int_keyed Try.underlying3
theorem key_of (c : Nat) (h : c ≤ 17) : keyOf Try.prog 3 (.int .i64 (c : Int)) = some (.int .i64 (c : Int)) :=
  keyOf_int_mk Try.underlying3 (by simp [Lit.wf, IntKind.min, IntKind.max, IntKind.signed, IntKind.bits]; omega)
theorem isKey (c : Int) : WideAt.IsKeyLit (.int .i64 c) := trivial
theorem ownsMap_exact {w : World} {b n : Nat} {D : DU} (h : w.ownsMap Try.prog 3 RB b n D) : w.ownsMap Try.prog 3 RB b (size D) D := by
  obtain ⟨es, clock, h1, h2, h3, rfl⟩ := h
  refine ⟨es, clock, h1, h2, ?_, rfl⟩
  rw [size_eq, length_sorted]
  simp
theorem mem_insert {x p : Lit × DU} : ∀ l : List (Lit × DU), p ∈ DataW.insert x l ↔ p = x ∨ p ∈ l
  | [] => by simp [DataW.insert]
  | y :: r => by
    unfold DataW.insert
    split
    · simp
    · rw [List.mem_cons, mem_insert r, List.mem_cons]
      constructor
      · rintro (h | h | h) <;> simp [h]
      · rintro (h | h | h) <;> simp [h]
theorem AllOk.put {D : DU} (h : AllOk D) (c : Nat) (hc : c ≤ 16) : AllOk (D.put (.int .i64 (c : Int)) (.lit (.bool true))) := by
  obtain ⟨es, rfl, h⟩ := h
  refine ⟨_, rfl, fun p hp => ?_⟩
  rcases (mem_insert _).1 hp with rfl | hp
  · exact ⟨c, rfl, hc, rfl⟩
  · exact h p (List.mem_filter.1 hp).1
theorem AllOk.del {D : DU} (h : AllOk D) (k : Lit) : AllOk (D.del k) := by
  obtain ⟨es, rfl, h⟩ := h
  exact ⟨_, rfl, fun p hp => h p (List.mem_filter.1 hp).1⟩
theorem AllOk.isMap {D : DU} (h : AllOk D) : IsMap D := by
  obtain ⟨es, rfl, _⟩ := h
  exact ⟨es, rfl⟩
/-- what lies below a number, with nothing twice, has no more elements -/
theorem nodup_le : ∀ (n : Nat) (l : List Nat), l.Nodup → (∀ x ∈ l, x < n) → l.length ≤ n
  | 0, l, _, h => by
    cases l with
    | nil => simp
    | cons a r => have := h a (by simp); omega
  | n + 1, l, hd, h => by
    have h1 := nodup_le n (l.filter (fun x => decide (x ≠ n))) (hd.filter _) (fun x hx => by
      have := List.mem_filter.1 hx
      have h2 := h x this.1
      have h3 : x ≠ n := by simpa using this.2
      omega)
    have h4 : l.length ≤ (l.filter (fun x => decide (x ≠ n))).length + 1 := by
      clear h1 h
      induction l with
      | nil => simp
      | cons a r ih =>
        rw [List.nodup_cons] at hd
        have ih := ih hd.2
        by_cases ha : a = n
        · subst ha
          have : r.filter (fun x => decide (x ≠ a)) = r := List.filter_eq_self.2 fun x hx => by
            have : x ≠ a := fun e => hd.1 (e ▸ hx)
            simpa using this
          rw [List.filter_cons_of_neg (by simp), this]
          simp
        · rw [List.filter_cons_of_pos (by simpa using ha)]
          simp only [List.length_cons]
          omega
    omega
def litN : Lit → Nat
  | .int _ a => a.toNat
  | _ => 0
theorem AllOk.size_le {D : DU} (h : AllOk D) (ht : Tidy D) : size D ≤ 17 := by
  obtain ⟨es, rfl, h⟩ := h
  obtain ⟨es', e, hp⟩ := ht
  cases e
  have h1 := nodup_le 17 (es.map fun p => (litN p.1)) ?_ ?_
  · simpa [size_eq] using h1
  · unfold List.Nodup
    rw [List.pairwise_map]
    refine hp.imp_of_mem ?_
    intro p q hpm hqm hne e
    obtain ⟨c, h2, _⟩ := h p hpm
    obtain ⟨d, h3, _⟩ := h q hqm
    rw [h2, h3] at e hne
    simp only [litN, Int.toNat_natCast] at e
    exact hne (by rw [e])
  · intro x hx
    rw [List.mem_map] at hx
    obtain ⟨p, hpm, rfl⟩ := hx
    obtain ⟨c, h2, h3, _⟩ := h p hpm
    rw [h2]
    simp only [litN, Int.toNat_natCast]
    omega
theorem MapIs.size {w : World} {b : Nat} {S : Nat → Bool} (h : MapIs w b S) : ∃ D : DU, w.ownsMap Try.prog 3 RB b (size D) D ∧ AllOk D ∧ Tidy D ∧ Maps.size D ≤ 17 ∧ ∀ c : Nat, has D (.int .i64 (c : Int)) = S c := by
  obtain ⟨D, h1, h2, h3⟩ := h
  have ht := h1.tidy keyed
  exact ⟨D, h1, h2, ht, h2.size_le ht, h3⟩
theorem MapIs.lt {w : World} {b : Nat} {S : Nat → Bool} (h : MapIs w b S) : b < w.heap.size := by
  obtain ⟨D, h1, _⟩ := h
  exact h1.lt
theorem MapIs.keep {w w' : World} {b : Nat} {S : Nat → Bool} (h : MapIs w b S) (hk : w'.heap[b]? = w.heap[b]?) : MapIs w' b S := by
  obtain ⟨D, ⟨es, clock, h1, h2⟩, h3⟩ := h
  exact ⟨D, ⟨es, clock, hk.trans h1, h2⟩, h3⟩
theorem MapIs.congr {w : World} {b : Nat} {S T : Nat → Bool} (h : MapIs w b S) (e : ∀ c, S c = T c) : MapIs w b T := by
  obtain ⟨D, h1, h2, h3⟩ := h
  exact ⟨D, h1, h2, fun c => (h3 c).trans (e c)⟩
theorem MapIs.le {w : World} {b : Nat} {S : Nat → Bool} (h : MapIs w b S) {c : Nat} (hc : S c = true) : c ≤ 16 := by
  obtain ⟨D, _, ⟨es, rfl, h2⟩, h3⟩ := h
  rw [← h3 c, has_eq, List.any_eq_true] at hc
  obtain ⟨p, hp, h4⟩ := hc
  obtain ⟨d, h5, h6, _⟩ := h2 p hp
  rw [h5] at h4
  simp [Lit.sameKey] at h4
  omega
/-- 'make(map[int]bool)' -/
theorem mapIs_made (w : World) : MapIs (w.alloc (.map #[] 0)) w.heap.size (fun _ => false) :=
  ⟨.map [], World.ownsMap_made w _ _ _, ⟨[], rfl, fun p hp => by simp at hp⟩, fun _ => rfl⟩
theorem mapTurned_heap {w w' : World} {b : Nat} (h : w.mapTurned w' b) : w.heap.size ≤ w'.heap.size ∧ (∀ k, k < w.heap.size → k ≠ b → w'.heap[k]? = w.heap[k]?) ∧ w.grownBy w' (some b) := by
  have hg := h.grown
  exact ⟨hg.size, fun k hk hn => hg.block k hk (fun e => hn (by cases e; rfl)), hg⟩
/-- 'm[c] = true' -/
theorem MapIs.store {w : World} {b : Nat} {S : Nat → Bool} (h : MapIs w b S) (c : Nat) (hc : c ≤ 16) :
    ∃ w', (Instr.mapUpdate 101 (.map (some b)) (.int .i64 (c : Int)) (.bool true)).run Try.prog w = .ok () w' ∧ MapIs w' b (fun d => decide (d = c) || S d) ∧ w.grownBy w' (some b) := by
  obtain ⟨D, h1, h2, h3, h4, h5⟩ := h.size
  obtain ⟨w', hr, ho, ht⟩ := h1.store keyed Try.underlying101 (by unfold maxLen; omega) (key_of c (by omega)) (plainElem_bool Try.underlying4 true)
  refine ⟨w', hr, ⟨_, ownsMap_exact ho, h2.put c hc, fun d => ?_⟩, ht.grown⟩
  by_cases e : d = c
  · subst e
    rw [has_put_same h2.isMap (isKey _)]
    simp
  · rw [has_put_other (by intro h; cases h; exact e rfl), h5 d]
    simp [e]
/-- 'delete(m, c)' -/
theorem MapIs.drop {w : World} {b : Nat} {S : Nat → Bool} (h : MapIs w b S) (c : Nat) (hc : c ≤ 16) (ty : TypeId) :
    ∃ w', (Builtin.delete_ #[101, 3] ty #[.map (some b), .int .i64 (c : Int)]).run Try.prog w = .ok (.tuple #[]) w' ∧ MapIs w' b (fun d => S d && !decide (d = c)) ∧ w.grownBy w' (some b) := by
  obtain ⟨D, h1, h2, h3, h4, h5⟩ := h.size
  obtain ⟨w', hr, ho, ht⟩ := h1.drop keyed Try.underlying101 (key_of c (by omega)) ty
  refine ⟨w', hr, ⟨_, ownsMap_exact ho, h2.del _, fun d => ?_⟩, ht.grown⟩
  by_cases e : d = c
  · subst e
    rw [has_del_same]
    simp
  · rw [has_del_other (by intro h; cases h; exact e rfl), h5 d]
    simp [e]
theorem atKey_bool {D : DU} (h : AllOk D) (c : Nat) : D.atKey (.int .i64 (c : Int)) (.lit (.bool false)) = .lit (.bool (has D (.int .i64 (c : Int)))) := by
  obtain ⟨es, rfl, h⟩ := h
  unfold DataW.atKey
  simp only
  cases hf : es.find? (fun p => p.1.sameKey (.int .i64 (c : Int))) with
  | none =>
    rw [List.find?_eq_none] at hf
    have : has (.map es : DU) (.int .i64 (c : Int)) = false := by
      rw [has_eq, List.any_eq_false]
      exact fun p hp => hf p hp
    rw [this]
  | some p =>
    have hm := List.mem_of_find?_eq_some hf
    have hk := List.find?_some hf
    have : has (.map es : DU) (.int .i64 (c : Int)) = true := by
      rw [has_eq, List.any_eq_true]
      exact ⟨p, hm, hk⟩
    rw [this]
    obtain ⟨_, _, _, h4⟩ := h p hm
    exact h4
set_option maxRecDepth 100000 in
/-- 'm[c]' -/
theorem MapIs.look {w : World} {b : Nat} {S : Nat → Bool} (h : MapIs w b S) (c : Nat) (hc : c ≤ 16) :
    (Instr.lookup 101 (.map (some b)) (.int .i64 (c : Int)) false).run Try.prog w = .ok (.bool (S c)) w := by
  obtain ⟨D, h1, h2, h3, h4, h5⟩ := h.size
  obtain ⟨v, ps, hr, hv⟩ := h1.lookup keyed Try.underlying101 (z := .bool false) (Try.zeroValue4 w) (plainElem_bool Try.underlying4 false) (key_of c (by omega))
  rw [atKey_bool h2, h5] at hv
  unfold RB plainElem at hv
  rw [Try.underlying4] at hv
  cases v <;> simp at hv
  rw [hr, hv.1]
/-- 'clear(m)' -/
theorem MapIs.clear {w : World} {b : Nat} {S : Nat → Bool} (h : MapIs w b S) (ty : TypeId) :
    ∃ w', (Builtin.clear_ #[101] ty #[.map (some b)]).run Try.prog w = .ok (.tuple #[]) w' ∧ MapIs w' b (fun _ => false) ∧ w.grownBy w' (some b) := by
  obtain ⟨D, ⟨es, clock, hb, h2⟩, _⟩ := h
  have hm := Try.underlying101
  have hr : ∃ clock', (Builtin.clear_ #[101] ty #[.map (some b)]).run Try.prog w = .ok (.tuple #[]) (setBlock w b (.map #[] clock')) :=
    ⟨_, by simp [Builtin.clear_, run_underlying hm, Go.MapKept.run_getObj_map hb, Go.MapKept.run_setObj_map _ hb, Result.andThen, setBlock]; rfl⟩
  obtain ⟨clock', hr⟩ := hr
  have ht : w.mapTurned (setBlock w b (.map #[] clock')) b := ⟨es, clock, #[], clock', hb, rfl⟩
  exact ⟨_, hr, ⟨.map [], ⟨#[], clock', heap_setBlock_same hb _, ⟨by simp, stamped_empty _, by simp⟩, Nat.le_refl _, rfl⟩, ⟨[], rfl, fun p hp => by simp at hp⟩, fun _ => rfl⟩, ht.grown⟩
end Go.Proofs.Ytafdaiidnphbaaa

/- slices.Sorted(maps.Keys(m)) of a map of counts. -/
namespace Go.Proofs.Ytafdaiidnphbaaa
open Go.RowKit Go.Sort Go.Maps Go.Shelf

/-- slices.Sort's two contracts, at the fence that asks nothing -/
theorem sorts (m : Nat) : AnyZI.SortsIn Try.prog sortedL_ren Fence.wide m :=
  ⟨fun blk off cap ss W hH hblk hsz => callsIn_wide.2 (AnyM.slices_Sort_int sortL blk off cap ss W hH hblk hsz),
   fun p cap W => callsIn_wide.2 (AnyM.slices_Sort_int_none sortL p cap W)⟩
theorem keys_c (b : Nat) (W : World) : Calls Try.prog 68 #[.map (some b)] W fun e w' => e = .returned (.func (.func 87) #[] #[.pointer (some ⟨W.heap.size, 0, none⟩)]) ∧ w' = W.alloc (.cells #[.map (some b)] 101) :=
  (callsIn_wide (n := 5)).1 (AnyZI.keys_in keysL Fence.wide 5 trivial rfl (some b) W)
def ncells (l : List Nat) : List Value := l.map fun (n : Nat) => Value.int .i64 (n : Int)
abbrev Nats (w : World) (v : Value) (l : List Nat) : Prop := Row w 1 v l.length (ncells l)
def SortP (w : World) (S : Nat → Bool) (e : Ending) (w' : World) : Prop := ∃ v L, e = .returned v ∧ Nats w' v L ∧ (∀ c, c ∈ L ↔ S c = true) ∧ (∀ a m c, v = .slice (some a) m c → w.heap.size ≤ a.block) ∧ Below w.heap.size w w'
theorem intKeys_ok {D : DU} (h : AllOk D) {S : Nat → Bool} (hs : ∀ c : Nat, has D (.int .i64 (c : Int)) = S c) : ∀ x : Int, x ∈ intKeys D ↔ ∃ c : Nat, x = c ∧ S c = true := by
  obtain ⟨es, rfl, h⟩ := h
  intro x
  unfold intKeys
  simp only [List.mem_map]
  constructor
  · rintro ⟨p, hp, rfl⟩
    obtain ⟨c, h1, h2, h3⟩ := h p hp
    refine ⟨c, by rw [h1]; rfl, ?_⟩
    rw [← hs c, has_eq, List.any_eq_true]
    exact ⟨p, hp, by rw [h1]; simp [Lit.sameKey]⟩
  · rintro ⟨c, rfl, hc⟩
    rw [← hs c, has_eq, List.any_eq_true] at hc
    obtain ⟨p, hp, h4⟩ := hc
    refine ⟨p, hp, ?_⟩
    obtain ⟨d, h5, _⟩ := h p hp
    rw [h5] at h4 ⊢
    simp [Lit.sameKey] at h4
    rw [h4]; rfl
theorem toNats {l : List Int} (h : ∀ x ∈ l, ∃ c : Nat, x = (c : Int)) : ∃ L : List Nat, l = L.map fun (c : Nat) => (c : Int) := by
  induction l with
  | nil => exact ⟨[], rfl⟩
  | cons a r ih =>
    obtain ⟨L, hL⟩ := ih (fun x hx => h x (by simp [hx]))
    obtain ⟨c, hc⟩ := h a (by simp)
    exact ⟨c :: L, by rw [hL, hc]; rfl⟩
theorem sorted_c {w : World} {b : Nat} {S : Nat → Bool} (h : MapIs w b S) (cb : Nat) (hc : w.cell? ⟨cb, 0, none⟩ = some (.map (some b))) :
    Calls Try.prog 67 #[.func (.func 87) #[] #[.pointer (some ⟨cb, 0, none⟩)]] w (SortP w S) := by
  obtain ⟨D, hown, h2, h3, h4, h5⟩ := h.size
  have hmax : Maps.size D ≤ maxLen := by unfold maxLen; omega
  have hbytes : Maps.size D * 8 ≤ 140737488355328 := by omega
  refine (callsIn_wide (n := 5)).1 ?_
  have hseq : SeqGives Fence.wide 2 Try.prog 87 #[.pointer (some ⟨cb, 0, none⟩)] encZ (fun ss => ss.Perm (intKeys D)) (Maps.size D) w :=
    AnyZI.keys_gives (ρ := keysL_ren) { keysL with } Fence.wide _ trivial rfl (by omega) cb b _ D _ (World.block_lt_of_cell? w _ hc) hc hown
  have cS := AnyZI.sorted_in sortedL Fence.wide 5 trivial trivial trivial trivial rfl (by omega) (sorts _) (enters_of Try.func86 (by kernel_rfl) rfl) 87 #[.pointer (some ⟨cb, 0, none⟩)] trivial (enters_of Try.func87 (by kernel_rfl) rfl) _ _ hmax hbytes _ hseq
  refine CallsIn.mono cS ?_
  rintro e w' ⟨v, ss, rfl, hS, hrow, _, hb⟩
  have hp : (ss.mergeSort (fun x y => decide (x ≤ y))).Perm (intKeys D) := (List.mergeSort_perm _ _).trans hS
  obtain ⟨L, hL⟩ := toNats (l := ss.mergeSort (fun x y => decide (x ≤ y))) (fun x hx => by
    obtain ⟨c, hc, _⟩ := (intKeys_ok h2 h5 x).1 (hp.mem_iff.1 hx)
    exact ⟨c, hc⟩)
  have hlen : ss.length = L.length := by
    have := congrArg List.length hL
    rw [List.length_mergeSort, List.length_map] at this
    exact this
  refine ⟨v, L, rfl, ?_, fun c => ?_, fun a m c he => ?_, hb⟩
  · have := Row.of_owns hrow
    rw [hL, hlen, List.map_map] at this
    exact this
  · have e1 : c ∈ L ↔ (c : Int) ∈ L.map (fun (c : Nat) => (c : Int)) := by
      rw [List.mem_map]
      constructor
      · intro h; exact ⟨c, h, rfl⟩
      · rintro ⟨d, hd, he⟩
        have : d = c := by omega
        exact this ▸ hd
    rw [e1, ← hL, hp.mem_iff, intKeys_ok h2 h5]
    constructor
    · rintro ⟨d, hd, hS⟩
      have : c = d := by omega
      exact this ▸ hS
    · intro h; exact ⟨c, rfl, h⟩
  · rcases hrow.2 with ⟨rfl, _⟩ | ⟨g, cap, cur, rfl, hg, _⟩
    · cases he
    · cases he; exact hg
end Go.Proofs.Ytafdaiidnphbaaa

/- What a pattern that is read byte by byte remembers, element by element. -/
namespace Go.Proofs.Ytafdaiidnphbaaa
open Go.RowKit

def gapAt (p : List El) (i : Nat) : Bool := match p[i]? with | some x => x.gap | none => false
def gap0 (p : List El) (i : Nat) : Bool := match p[i]? with | some x => x.gap && decide (x.low = 0) | none => false
/-- a gap that was read through, by one byte at least -/
def thru (b : List UInt8) (p : List El) (s : Nat → Bool) (k i : Nat) : Bool :=
  match p[i]? with
  | some x => (List.range 17).any fun c => decide (1 ≤ c) && decide (x.low ≤ (c : Int)) && decide ((c : Int) ≤ x.high) && decide (c ≤ k + 1) && pre b p s i (k + 1 - c)
  | none => false
/-- in the middle of reading the byte k: the elements from i on have read it -/
def part (b : List UInt8) (p : List El) (s : Nat → Bool) (k i j c : Nat) : Bool :=
  if j < i then sees b p s k j c
  else if j = i then sees b p s (k + 1) j c && decide (1 ≤ c)
  else if j = i + 1 ∧ gapAt p i = true then decide (c = 0) && thru b p s k i
  else sees b p s (k + 1) j c
/-- an element is the next one -/
def enterS (p : List El) (st : Nat → Nat → Bool) (i j c : Nat) : Bool := st j c || (decide (c = 0) && (decide (j = i) || (decide (j = i + 1) && gap0 p i)))

theorem sees_zero {b : List UInt8} {p : List El} {s : Nat → Bool} {k i : Nat} : sees b p s k i 0 = pre b p s i k := by
  unfold sees
  cases h : p[i]? with
  | none => simp
  | some x =>
    simp only
    split
    · have : ((0 : Nat) : Int) ≤ max x.high 0 := by omega
      simp only [this, decide_true, Nat.zero_le, Bool.true_and, Nat.sub_zero]
    · simp
theorem sees_byte {b : List UInt8} {p : List El} {s : Nat → Bool} {k i c : Nat} (h : gapAt p i = false) : sees b p s k i c = (decide (c = 0) && pre b p s i k) := by
  unfold sees gapAt at *
  cases hx : p[i]? with
  | none => simp
  | some x =>
    rw [hx] at h
    simp only at h ⊢
    rw [h]; simp
theorem gapAt_some {p : List El} {i : Nat} (hi : i < p.length) : gapAt p i = p[i].gap := by
  unfold gapAt; rw [List.getElem?_eq_getElem hi]
theorem gap0_some {p : List El} {i : Nat} (hi : i < p.length) : gap0 p i = (p[i].gap && decide (p[i].low = 0)) := by
  unfold gap0; rw [List.getElem?_eq_getElem hi]
theorem gapAt_ge {p : List El} {i : Nat} (hi : p.length ≤ i) : gapAt p i = false := by
  unfold gapAt; rw [List.getElem?_eq_none hi]
theorem gap0_gap {p : List El} {i : Nat} (h : gapAt p i = false) : gap0 p i = false := by
  unfold gapAt at h; unfold gap0
  cases hx : p[i]? with
  | none => rfl
  | some x => rw [hx] at h; simp only at h ⊢; rw [h]; rfl
theorem OkP.gap_next {p : List El} (h : OkP p) {i : Nat} (hg : gapAt p i = true) : i + 1 < p.length ∧ gapAt p (i + 1) = false := by
  have hi : i < p.length := by
    by_cases hi : i < p.length
    · exact hi
    · rw [gapAt_ge (by omega)] at hg; cases hg
  rw [gapAt_some hi] at hg
  obtain ⟨_, _, _, _, _, h6, _⟩ := h.gap hi hg
  refine ⟨h6, ?_⟩
  rw [gapAt_some h6]
  cases hn : p[i + 1].gap
  · rfl
  · have := (h.gap h6 hn).2.2.2.2.2.2 (by omega)
    simp only [Nat.add_sub_cancel] at this
    rw [this] at hg; cases hg
theorem sees_gap {b : List UInt8} {p : List El} {s : Nat → Bool} {k i c : Nat} (h : OkP p) (hi : i < p.length) (hg : p[i].gap = true) : sees b p s k i c = (decide ((c : Int) ≤ p[i].high) && decide (c ≤ k) && pre b p s i (k - c)) := by
  unfold sees
  rw [List.getElem?_eq_getElem hi]
  simp only [hg, if_true]
  have := (h.gap hi hg).2.1
  have := (h.gap hi hg).2.2.1
  rw [show max p[i].high 0 = p[i].high by omega]
theorem pre_gap {b : List UInt8} {p : List El} {s : Nat → Bool} {k i : Nat} (h : OkP p) (hi : i < p.length) (hg : p[i].gap = true) : pre b p s (i + 1) (k + 1) = (thru b p s k i || (gap0 p i && pre b p s i (k + 1))) := by
  obtain ⟨_, g1, g2, g3, _⟩ := h.gap hi hg
  rw [pre_succ hi, Bool.eq_iff_iff, stepP_gap hg, Bool.or_eq_true]
  unfold thru
  rw [List.getElem?_eq_getElem hi, gap0_some hi, hg]
  simp only [List.any_eq_true, List.mem_range, Bool.and_eq_true, decide_eq_true_eq, Bool.true_and]
  constructor
  · rintro ⟨c, h1, h2, h3, h4⟩
    by_cases hc : c = 0
    · subst hc
      exact .inr ⟨by omega, by simpa using h4⟩
    · exact .inl ⟨c, by omega, ⟨⟨⟨by omega, h1⟩, by omega⟩, h3⟩, h4⟩
  · rintro (⟨c, _, ⟨⟨⟨h0, h1⟩, h2⟩, h3⟩, h4⟩ | ⟨h1, h2⟩)
    · exact ⟨c, h1, by omega, h3, h4⟩
    · exact ⟨0, by omega, by omega, by omega, by simpa using h2⟩
theorem pre_byte {b : List UInt8} {p : List El} {s : Nat → Bool} {k i : Nat} {y : UInt8} (hi : i < p.length) (hg : p[i].gap = false) (hb : b[k]? = some y) : pre b p s (i + 1) (k + 1) = (pre b p s i k && hasB p[i].cls y.toNat) := by
  rw [pre_succ hi, Bool.eq_iff_iff, stepP_byte hg]
  simp only [Nat.add_sub_cancel, hb, Option.some.injEq, exists_eq_left', Bool.and_eq_true]
  constructor
  · rintro ⟨_, h1, h2⟩; exact ⟨h1, h2⟩
  · rintro ⟨h1, h2⟩; exact ⟨by omega, h1, h2⟩
/-- an element that is no gap reads the byte -/
theorem part_byte {b : List UInt8} {p : List El} {s : Nat → Bool} {k i : Nat} {y : UInt8} (h : OkP p) (hi : i < p.length) (hg : p[i].gap = false) (hb : b[k]? = some y) (ent : Bool) (he : ent = (pre b p s i k && hasB p[i].cls y.toNat)) (j c : Nat) :
    ((part b p s k (i + 1) j c || (ent && (decide (c = 0) && (decide (j = i + 1) || (decide (j = i + 1 + 1) && gap0 p (i + 1)))))) && !(decide (j = i) && decide (c = 0))) = part b p s k i j c := by
  have hgi : gapAt p i = false := by rw [gapAt_some hi]; exact hg
  have hpre := pre_byte (b := b) (p := p) (s := s) (k := k) hi hg hb
  rw [← he] at hpre
  by_cases h1 : j < i
  · have e1 : part b p s k (i + 1) j c = sees b p s k j c := by unfold part; rw [if_pos (by omega)]
    have e2 : part b p s k i j c = sees b p s k j c := by unfold part; rw [if_pos h1]
    rw [e1, e2]
    simp [show ¬ j = i + 1 by omega, show ¬ j = i + 1 + 1 by omega, show ¬ j = i by omega]
  · by_cases h2 : j = i
    · subst h2
      have e1 : part b p s k (j + 1) j c = sees b p s k j c := by unfold part; rw [if_pos (by omega)]
      have e2 : part b p s k j j c = (sees b p s (k + 1) j c && decide (1 ≤ c)) := by unfold part; rw [if_neg (by omega), if_pos rfl]
      rw [e1, e2, sees_byte hgi, sees_byte hgi]
      by_cases hc : c = 0
      · subst hc; simp
      · simp [hc]
    · by_cases h3 : j = i + 1
      · subst h3
        have e1 : part b p s k (i + 1) (i + 1) c = (sees b p s (k + 1) (i + 1) c && decide (1 ≤ c)) := by unfold part; rw [if_neg (by omega), if_pos rfl]
        have e2 : part b p s k i (i + 1) c = sees b p s (k + 1) (i + 1) c := by unfold part; rw [if_neg (by omega), if_neg (by omega), if_neg (by rw [hgi]; simp)]
        rw [e1, e2]
        by_cases hc : c = 0
        · subst hc
          rw [sees_zero, hpre]
          simp
        · simp [hc, show 1 ≤ c by omega]
      · have e2 : part b p s k i j c = sees b p s (k + 1) j c := by unfold part; rw [if_neg (by omega), if_neg h2, if_neg (by omega)]
        rw [e2]
        by_cases h4 : j = i + 1 + 1
        · subst h4
          by_cases hgn : gapAt p (i + 1) = true
          · obtain ⟨g1, g2⟩ := h.gap_next hgn
            have hn : i + 1 < p.length := by omega
            have e1 : part b p s k (i + 1) (i + 1 + 1) c = (decide (c = 0) && thru b p s k (i + 1)) := by unfold part; rw [if_neg (by omega), if_neg (by omega), if_pos ⟨rfl, hgn⟩]
            rw [e1, sees_byte g2, pre_gap h hn (by rw [← gapAt_some hn]; exact hgn), hpre]
            by_cases hc : c = 0
            · subst hc
              cases thru b p s k (i + 1) <;> cases ent <;> cases gap0 p (i + 1) <;> simp [show ¬ i + 1 + 1 = i by omega]
            · simp [hc]
          · have hgn' : gapAt p (i + 1) = false := by simpa using hgn
            have e1 : part b p s k (i + 1) (i + 1 + 1) c = sees b p s (k + 1) (i + 1 + 1) c := by unfold part; rw [if_neg (by omega), if_neg (by omega), if_neg (by rw [hgn']; simp)]
            rw [e1, gap0_gap hgn']
            simp [show ¬ i + 1 + 1 = i by omega]
        · have e1 : part b p s k (i + 1) j c = sees b p s (k + 1) j c := by unfold part; rw [if_neg (by omega), if_neg h3, if_neg (by omega)]
          rw [e1]
          simp [h3, h4, h2]
/-- a gap reads the byte -/
theorem part_gap {b : List UInt8} {p : List El} {s : Nat → Bool} {k i : Nat} (h : OkP p) (hi : i < p.length) (hg : p[i].gap = true) (j c : Nat) :
    (if j = i then decide (1 ≤ c) && decide ((c : Int) ≤ p[i].high) && part b p s k (i + 1) i (c - 1) else part b p s k (i + 1) j c || (thru b p s k i && (decide (c = 0) && decide (j = i + 1)))) = part b p s k i j c := by
  have hgi : gapAt p i = true := by rw [gapAt_some hi]; exact hg
  obtain ⟨hn, hgn⟩ := h.gap_next hgi
  by_cases h2 : j = i
  · subst h2
    rw [if_pos rfl]
    have e1 : part b p s k (j + 1) j (c - 1) = sees b p s k j (c - 1) := by unfold part; rw [if_pos (by omega)]
    have e2 : part b p s k j j c = (sees b p s (k + 1) j c && decide (1 ≤ c)) := by unfold part; rw [if_neg (by omega), if_pos rfl]
    rw [e1, e2, sees_gap h hi hg, sees_gap h hi hg]
    by_cases hc : c = 0
    · subst hc; simp
    · have e3 : k - (c - 1) = k + 1 - c := by omega
      rw [e3, Bool.eq_iff_iff]
      simp only [Bool.and_eq_true, decide_eq_true_eq]
      constructor
      · rintro ⟨⟨h1, h2⟩, ⟨h3, h4⟩, h5⟩
        exact ⟨⟨⟨h2, by omega⟩, h5⟩, h1⟩
      · rintro ⟨⟨⟨h2, h4⟩, h5⟩, h1⟩
        exact ⟨⟨h1, h2⟩, ⟨by omega, by omega⟩, h5⟩
  · rw [if_neg h2]
    by_cases h1 : j < i
    · have e1 : part b p s k (i + 1) j c = sees b p s k j c := by unfold part; rw [if_pos (by omega)]
      have e2 : part b p s k i j c = sees b p s k j c := by unfold part; rw [if_pos h1]
      rw [e1, e2]
      simp [show ¬ j = i + 1 by omega]
    · by_cases h3 : j = i + 1
      · subst h3
        have e1 : part b p s k (i + 1) (i + 1) c = (sees b p s (k + 1) (i + 1) c && decide (1 ≤ c)) := by unfold part; rw [if_neg (by omega), if_pos rfl]
        have e2 : part b p s k i (i + 1) c = (decide (c = 0) && thru b p s k i) := by unfold part; rw [if_neg (by omega), if_neg (by omega), if_pos ⟨rfl, hgi⟩]
        rw [e1, e2, sees_byte hgn]
        by_cases hc : c = 0
        · subst hc; simp
        · simp [hc]
      · have e2 : part b p s k i j c = sees b p s (k + 1) j c := by unfold part; rw [if_neg (by omega), if_neg h2, if_neg (by omega)]
        have e1 : part b p s k (i + 1) j c = sees b p s (k + 1) j c := by unfold part; rw [if_neg (by omega), if_neg h3, if_neg (by rw [hgn]; simp)]
        rw [e1, e2]
        simp [h3]
end Go.Proofs.Ytafdaiidnphbaaa

/- A pattern that reads bytes, in memory; enter, begin. -/
namespace Go.Proofs.Ytafdaiidnphbaaa
open Go.RowKit Go.Sort Go.Maps

def mcells (ms : List Nat) : List Value := ms.map fun (b : Nat) => Value.map (some b)
structure WalkIn (w0 w : World) (W : Nat) (pv : Value) (p : List El) (A : Nat) (ms : List Nat) (st : Nat → Nat → Bool) : Prop where
  hw : w.heap[W]? = some (.cells #[pv, .slice (some ⟨A, 0, none⟩) (p.length + 1) (p.length + 1)] 100)
  ha : w.heap[A]? = some (.cells (mcells ms).toArray 101)
  len : ms.length = p.length + 1
  m : ∀ i (h : i < ms.length), MapIs w ms[i] (st i)
  nd : (W :: A :: ms).Nodup
  lo : ∀ k ∈ W :: A :: ms, w0.heap.size ≤ k
  b : Below w0.heap.size w0 w
  pats : Pats w0 pv p
section
variable {w0 w : World} {W : Nat} {pv : Value} {p : List El} {A : Nat} {ms : List Nat} {st : Nat → Nat → Bool}
theorem WalkIn.congr (h : WalkIn w0 w W pv p A ms st) {st' : Nat → Nat → Bool} (e : ∀ i c, i ≤ p.length → st i c = st' i c) : WalkIn w0 w W pv p A ms st' :=
  ⟨h.hw, h.ha, h.len, fun i hi => (h.m i hi).congr (fun c => e i c (by have := h.len; omega)), h.nd, h.lo, h.b, h.pats⟩
theorem WalkIn.below (h : WalkIn w0 w W pv p A ms st) {w' : World} (hb : Below w.heap.size w w') : WalkIn w0 w' W pv p A ms st :=
  have hl : ∀ {k : Nat} {o : Obj}, w.heap[k]? = some o → w'.heap[k]? = some o := fun {k _} hk => (hb.block k (Array.getElem?_eq_some_iff.1 hk).1).trans hk
  ⟨hl h.hw, hl h.ha, h.len, fun i hi => (h.m i hi).keep (hb.block _ (h.m i hi).lt), h.nd, h.lo, h.b.trans (hb.mono h.b.size), h.pats⟩
theorem WalkIn.cells (h : WalkIn w0 w W pv p A ms st) : w.cell? ⟨W, 0, none⟩ = some pv ∧ w.cell? ⟨W, 1, none⟩ = some (.slice (some ⟨A, 0, none⟩) (p.length + 1) (p.length + 1)) := ⟨cell_in h.hw rfl, cell_in h.hw rfl⟩
theorem WalkIn.map (h : WalkIn w0 w W pv p A ms st) {i : Nat} (hi : i ≤ p.length) : ∃ b, (∃ h' : i < ms.length, ms[i] = b) ∧ w.cell? ⟨A, i, none⟩ = some (.map (some b)) ∧ MapIs w b (st i) := by
  have hi' : i < ms.length := by have := h.len; omega
  exact ⟨ms[i], ⟨hi', rfl⟩, cell_in h.ha (by simp [mcells, List.getElem?_eq_getElem hi']), h.m i hi'⟩
/-- one map has turned -/
theorem WalkIn.turn (h : WalkIn w0 w W pv p A ms st) {i b : Nat} (hb : ∃ h' : i < ms.length, ms[i] = b) {w' : World} {S : Nat → Bool} (hm : MapIs w' b S) (hg : w.grownBy w' (some b)) : WalkIn w0 w' W pv p A ms (fun j c => if j = i then S c else st j c) := by
  obtain ⟨hi, rfl⟩ := hb
  have hnd := h.nd
  rw [List.nodup_cons, List.nodup_cons] at hnd
  obtain ⟨n1, n2, n3⟩ := hnd
  have hin : ms[i] ∈ ms := List.getElem_mem hi
  have hk : ∀ {k : Nat} {o : Obj}, w.heap[k]? = some o → k ≠ ms[i] → w'.heap[k]? = some o := fun {k o} hk hn => (hg.block k (Array.getElem?_eq_some_iff.1 hk).1 (fun e => hn (by cases e; rfl))).trans hk
  refine ⟨hk h.hw (fun e => n1 (by rw [e]; simp [hin])), hk h.ha (fun e => n2 (by rw [e]; exact hin)), h.len, fun j hj => ?_, h.nd, h.lo, h.b.grown hg h.b.size (fun k e => by cases e; exact h.lo _ (by simp [hin])), h.pats⟩
  by_cases e : j = i
  · subst e
    exact hm.congr (fun c => by simp)
  · have hne : ms[j] ≠ ms[i] := fun he => e ((List.getElem_inj n3).1 he)
    have := (h.m j hj).keep (hg.block _ (h.m j hj).lt (fun e => hne (Option.some.inj e)))
    exact this.congr (fun c => by simp [e])
end
/-- of the blocks that were there only those of ms have turned -/
structure Only (ms : List Nat) (w w' : World) : Prop where
  size : w.heap.size ≤ w'.heap.size
  block : ∀ k, k < w.heap.size → k ∉ ms → w'.heap[k]? = w.heap[k]?
theorem Only.of_below {ms : List Nat} {w w' : World} (h : Below w.heap.size w w') : Only ms w w' := ⟨h.size, fun k hk _ => h.block k hk⟩
theorem Only.trans {ms : List Nat} {w w1 w2 : World} (h1 : Only ms w w1) (h2 : Only ms w1 w2) : Only ms w w2 :=
  ⟨Nat.le_trans h1.size h2.size, fun k hk hn => (h2.block k (Nat.lt_of_lt_of_le hk h1.size) hn).trans (h1.block k hk hn)⟩
theorem Only.of_grown {ms : List Nat} {w w' : World} {b : Nat} (h : w.grownBy w' (some b)) (hb : b ∈ ms) : Only ms w w' :=
  ⟨h.size, fun k hk hn => h.block k hk (fun e => hn (by cases e; exact hb))⟩
theorem Only.grown {ms : List Nat} {w w' : World} {i b : Nat} (h : w.grownBy w' (some b)) (hb : ∃ h' : i < ms.length, ms[i] = b) : Only ms w w' := by
  obtain ⟨h1, rfl⟩ := hb
  exact Only.of_grown h (List.getElem_mem h1)
theorem Only.row {ms : List Nat} {w w' : World} (h : Only ms w w') {size n : Nat} {v : Value} {xs : List Value} (hr : Row w size v n xs) (ho : ∀ a m c, v = .slice (some a) m c → a.block ∉ ms) : Row w' size v n xs := by
  obtain ⟨h1, h2, a, cap, rfl, h4, h3⟩ := hr
  refine ⟨h1, h2, a, cap, rfl, h4, ?_⟩
  rcases h3 with h3 | ⟨g, o, rfl, hc⟩
  · exact .inl h3
  · refine .inr ⟨g, o, rfl, fun j hj => ?_⟩
    have e := hc j hj
    have hlt : g < w.heap.size := by
      rw [List.getElem?_eq_getElem (by omega)] at e
      exact World.block_lt_of_cell? w _ e
    rw [← e]
    unfold World.cell?
    rw [h.block g hlt (ho _ _ _ rfl)]
def EnterP (w0 w : World) (W : Nat) (pv : Value) (p : List El) (A : Nat) (ms : List Nat) (st : Nat → Nat → Bool) (e : Ending) (w' : World) : Prop := e = .returned (.tuple #[]) ∧ WalkIn w0 w' W pv p A ms st ∧ Only ms w w'

set_option maxRecDepth 100000 in
set_option maxHeartbeats 4000000 in
/-- an element that is no gap which may be empty -/
theorem enter_one {w0 w : World} {W : Nat} {pv : Value} {p : List El} {A : Nat} {ms : List Nat} {st : Nat → Nat → Bool} (h : WalkIn w0 w W pv p A ms st) (_ : p.length ≤ 512) (i : Nat) (hi : i ≤ p.length) (hg : gap0 p i = false) :
    Calls Try.prog 65 #[.pointer (some ⟨W, 0, none⟩), .int .i64 (i : Int)] w (EnterP w0 w W pv p A ms (enterS p st i)) := by
  obtain ⟨c0, c1⟩ := h.cells
  obtain ⟨b, hb, cm, hm⟩ := h.map hi
  obtain ⟨w', hrun, hm', hgr⟩ := hm.store 0 (by omega)
  have hrun' : (Instr.mapUpdate 101 (.map (some b)) (.int .i64 0) (.bool true)).run Try.prog w = .ok () w' := hrun
  have hT := h.turn hb hm' hgr
  have HON := Lib.hid (Only.grown hgr hb)
  have hF : WalkIn w0 w' W pv p A ms (enterS p st i) := hT.congr (fun j c _ => by
    unfold enterS
    rw [hg]
    by_cases e : j = i
    · subst e; simp [Bool.or_comm]
    · simp [e])
  obtain ⟨d0, d1⟩ := hF.cells
  have HF := Lib.hid hF
  obtain ⟨a, cap, rfl⟩ := Row.form2 h.pats
  have i0 : (0 : Int) ≤ (i : Int) := by omega
  have i1 : (i : Int) < (p.length : Int) + 1 := by omega
  by_cases hlt : i < p.length
  · have hpw : Pats w' (.slice a p.length cap) p := Row.below h.pats hF.b
    obtain ⟨g, o, hga, hgl, e0, e1, e2, e3, e4, e5, e6⟩ := Pats.at hpw hlt
    subst hga
    have i2 : (i : Int) < (p.length : Int) := by omega
    rw [gap0_some hlt] at hg
    clear h hm hrun hm' hgr hT hF hpw e1 e2 e3 e4 e6
    cases hg0 : p[i].gap
    · rw [hg0] at e0
      clear hg
      go_enter Try.func65, Try.ntmps65
      go_wp2_with fail
      refine bodyPost_end (v := .tuple #[]) (by simp [results, Try.results65, go_sem]) rfl ⟨rfl, HF.out, HON.out⟩
    · rw [hg0] at e0 hg
      have hl0 : ¬ p[i].low = 0 := by simpa using hg
      have tl : (p[i].low == 0) = false := beq_eq_false_iff_ne.2 hl0
      clear hg hl0
      go_enter Try.func65, Try.ntmps65
      go_wp2_with fail
      refine bodyPost_end (v := .tuple #[]) (by simp [results, Try.results65, go_sem]) rfl ⟨rfl, HF.out, HON.out⟩
  · have i2 : ¬ (i : Int) < (p.length : Int) := by omega
    clear h hm hrun hm' hgr hT hF
    go_enter Try.func65, Try.ntmps65
    go_wp2_with fail
    refine bodyPost_end (v := .tuple #[]) (by simp [results, Try.results65, go_sem]) rfl ⟨rfl, HF.out, HON.out⟩
set_option maxRecDepth 100000 in
set_option maxHeartbeats 4000000 in
theorem enter_p {w0 w : World} {W : Nat} {pv : Value} {p : List El} {A : Nat} {ms : List Nat} {st : Nat → Nat → Bool} (h : WalkIn w0 w W pv p A ms st) (hok : OkP p) (i : Nat) (hi : i ≤ p.length) :
    Calls Try.prog 65 #[.pointer (some ⟨W, 0, none⟩), .int .i64 (i : Int)] w (EnterP w0 w W pv p A ms (enterS p st i)) := by
  have hs := hok.le
  by_cases hg : gap0 p i = true
  · have hgap : gapAt p i = true := by
      cases hga : gapAt p i
      · rw [gap0_gap hga] at hg; cases hg
      · rfl
    obtain ⟨hn, hgn⟩ := hok.gap_next hgap
    have hlt : i < p.length := by omega
    obtain ⟨c0, c1⟩ := h.cells
    obtain ⟨b, hb, cm, hm⟩ := h.map hi
    obtain ⟨w', hrun, hm', hgr⟩ := hm.store 0 (by omega)
    have hrun' : (Instr.mapUpdate 101 (.map (some b)) (.int .i64 0) (.bool true)).run Try.prog w = .ok () w' := hrun
    have hT := h.turn hb hm' hgr
    have HO1 := Lib.hid (Only.grown hgr hb)
    have K := Lib.hid (enter_one hT hs (i + 1) (by omega) (gap0_gap hgn))
    have HE := Lib.hid (show ∀ j c, enterS p (fun j c => if j = i then (decide (c = 0) || st i c) else st j c) (i + 1) j c = enterS p st i j c from fun j c => by
      unfold enterS
      rw [gap0_gap hgn, hg]
      by_cases e : j = i
      · subst e; simp [Bool.or_comm]
      · simp [e])
    obtain ⟨d0, d1⟩ := hT.cells
    obtain ⟨a, cap, rfl⟩ := Row.form2 h.pats
    have i0 : (0 : Int) ≤ (i : Int) := by omega
    have i1 : (i : Int) < (p.length : Int) + 1 := by omega
    have hpw : Pats w' (.slice a p.length cap) p := Row.below h.pats hT.b
    obtain ⟨g, o, hga, hgl, e0, e1, e2, e3, e4, e5, e6⟩ := Pats.at hpw hlt
    subst hga
    have i2 : (i : Int) < (p.length : Int) := by omega
    have wi1 : IntKind.i64.wrap ((i : Int) + 1) = ((i + 1 : Nat) : Int) := by rw [IntWalk.i64_in _ (by omega)]; omega
    rw [gap0_some hlt] at hg
    have hgg : p[i].gap = true := by rw [← gapAt_some hlt]; exact hgap
    rw [hgg] at hg e0
    have hl0 : p[i].low = 0 := by simpa using hg
    rw [hl0] at e5
    clear h hm hrun hm' hgr hT hpw e1 e2 e3 e4 e6 hg hl0 hgg hgap hgn
    generalize hq : i + 1 = q at *
    clear hq
    go_enter Try.func65, Try.ntmps65
    go_wp2_with fail
    refine K.out.mono ?_
    rintro e w2 ⟨rfl, hW, hO⟩
    have HF := Lib.hid (hW.congr (fun j c _ => HE.out j c))
    have HON := Lib.hid (HO1.out.trans hO)
    clear hW hO
    go_wp2_with fail
    refine bodyPost_end (v := .tuple #[]) (by simp [results, Try.results65, go_sem]) rfl ⟨rfl, HF.out, HON.out⟩
  · exact enter_one h hs i hi (by simpa using hg)
set_option maxRecDepth 100000 in
theorem begin_p {w0 w : World} {W : Nat} {pv : Value} {p : List El} {A : Nat} {ms : List Nat} {st : Nat → Nat → Bool} (h : WalkIn w0 w W pv p A ms st) (hok : OkP p) :
    Calls Try.prog 44 #[.pointer (some ⟨W, 0, none⟩)] w (EnterP w0 w W pv p A ms (enterS p st 0)) := by
  have K := Lib.hid (enter_p h hok 0 (by omega))
  clear h
  go_enter Try.func44, Try.ntmps44
  go_wp2_with fail
  refine K.out.mono ?_
  rintro e w2 ⟨rfl, hW, hO⟩
  have HF := Lib.hid hW
  have HON := Lib.hid hO
  clear hW hO
  go_wp2_with fail
  refine bodyPost_end (v := .tuple #[]) (by simp [results, Try.results44, go_sem]) rfl ⟨rfl, HF.out, HON.out⟩
end Go.Proofs.Ytafdaiidnphbaaa

/- A pattern that reads a byte. -/
namespace Go.Proofs.Ytafdaiidnphbaaa
open Go.RowKit Go.Sort Go.Maps

/-- behind some of the counts of a gap -/
def gapS (b : List UInt8) (p : List El) (s : Nat → Bool) (k i : Nat) (lo hi : Int) (L : List Nat) (j c : Nat) : Bool :=
  if j = i then L.any fun n => decide (n + 1 = c) && decide ((n : Int) < hi)
  else part b p s k (i + 1) j c || ((L.any fun n => decide ((n : Int) < hi) && decide (lo ≤ (n : Int) + 1)) && (decide (c = 0) && decide (j = i + 1)))
theorem any_snoc {α : Type} {f : α → Bool} {l : List α} {x : α} : (l ++ [x]).any f = (l.any f || f x) := by simp
theorem gapS_end {b : List UInt8} {p : List El} {s : Nat → Bool} {k i : Nat} (h : OkP p) (hi : i < p.length) (hg : p[i].gap = true) {L : List Nat} (hL : ∀ c, c ∈ L ↔ part b p s k (i + 1) i c = true) (j c : Nat) :
    gapS b p s k i p[i].low p[i].high L j c = part b p s k i j c := by
  rw [← part_gap h hi hg]
  obtain ⟨_, g1, g2, g3, _⟩ := h.gap hi hg
  unfold gapS
  by_cases e : j = i
  · rw [if_pos e, if_pos e, Bool.eq_iff_iff]
    simp only [List.any_eq_true, Bool.and_eq_true, decide_eq_true_eq]
    constructor
    · rintro ⟨n, hn, rfl, h2⟩
      exact ⟨⟨by omega, by omega⟩, by rw [Nat.add_sub_cancel]; exact (hL n).1 hn⟩
    · rintro ⟨⟨h1, h2⟩, h3⟩
      exact ⟨c - 1, (hL _).2 h3, by omega, by omega⟩
  · rw [if_neg e, if_neg e]
    congr 1
    congr 1
    rw [Bool.eq_iff_iff]
    unfold thru
    rw [List.getElem?_eq_getElem hi]
    simp only [List.any_eq_true, Bool.and_eq_true, decide_eq_true_eq, List.mem_range]
    have hsee : ∀ n, part b p s k (i + 1) i n = sees b p s k i n := fun n => by unfold part; rw [if_pos (by omega)]
    constructor
    · rintro ⟨n, hn, h1, h2⟩
      have h3 := (hL n).1 hn
      rw [hsee, sees_gap h hi hg] at h3
      simp only [Bool.and_eq_true, decide_eq_true_eq] at h3
      exact ⟨n + 1, by omega, ⟨⟨⟨by omega, by omega⟩, by omega⟩, by omega⟩, by rw [show k + 1 - (n + 1) = k - n by omega]; exact h3.2⟩
    · rintro ⟨c, h0, ⟨⟨⟨h1, h2⟩, h3⟩, h4⟩, h5⟩
      refine ⟨c - 1, (hL _).2 ?_, by omega, by omega⟩
      rw [hsee, sees_gap h hi hg]
      simp only [Bool.and_eq_true, decide_eq_true_eq]
      exact ⟨⟨by omega, by omega⟩, by rw [show k - (c - 1) = k + 1 - c by omega]; exact h5⟩
set_option maxRecDepth 100000 in
set_option maxHeartbeats 40000000 in
theorem read_p {w0 w : World} {W : Nat} {pv : Value} {p : List El} {A : Nat} {ms : List Nat} {b : List UInt8} {s : Nat → Bool} {k : Nat} (h : WalkIn w0 w W pv p A ms (part b p s k p.length)) (hok : OkP p) (y : UInt8) (hb : b[k]? = some y) :
    Calls Try.prog 45 #[.pointer (some ⟨W, 0, none⟩), .int .u8 (y.toNat : Int)] w (EnterP w0 w W pv p A ms (part b p s k 0)) := by
  have hs := hok.le
  have HK := Lib.hid hok
  have HBy := Lib.hid hb
  have HW := Lib.hid h
  obtain ⟨c0, c1⟩ := h.cells
  have hps := h.pats
  obtain ⟨a, cap, rfl⟩ := Row.form2 hps
  have hy : y.toNat < 256 := UInt8.toNat_lt y
  have KH := Lib.hid (fun s w => has_p s y.toNat hy w)
  generalize hYe : y.toNat = Y at *
  have HYE := Lib.hid hYe
  clear hYe
  clear h hps hb hok
  go_enter Try.func45, Try.ntmps45
  have w1 : IntKind.i64.wrap ((p.length : Int) - 1) = (p.length : Int) - 1 := IntWalk.i64_in _ (by omega)
  go_wp2_with fail
  go_loopw [4] (fun iv wr => ∃ m : Nat, m ≤ p.length ∧ iv = .int .i64 ((m : Int) - 1) ∧ WalkIn w0 wr W (.slice a p.length cap) p A ms (part b p s k m) ∧ Only ms w wr) (fun iv _ => (intOf iv + 1).toNat)
  case atStart => exact ⟨p.length, by omega, rfl, HW.out, Only.of_below (Below.refl _ _)⟩
  case round =>
    obtain ⟨m, hm, rfl, hWr, hO⟩ := hrel
    have HWr := Lib.hid hWr
    have HO := Lib.hid hO
    obtain ⟨d0, d1⟩ := hWr.cells
    by_cases hm0 : m = 0
    · subst hm0
      have t0 : ¬ (0 : Int) ≤ ((0 : Nat) : Int) - 1 := by omega
      have HF := Lib.hid hWr
      have HON := Lib.hid hO
      clear hWr hO d0 d1 c0 c1
      go_wp2_with fail
      refine bodyPost_end (v := .tuple #[]) (by simp [results, Try.results45, go_sem]) rfl ⟨rfl, HF.out, HON.out⟩
    · obtain ⟨i, rfl⟩ : ∃ i, m = i + 1 := ⟨m - 1, by omega⟩
      rw [show (((i + 1 : Nat) : Int) - 1) = (i : Int) by omega]
      have hi : i < p.length := by omega
      have hps : Pats wr (.slice a p.length cap) p := Row.below hWr.pats hWr.b
      obtain ⟨g, o, hga, hgl, e0, e1, e2, e3, e4, e5, e6⟩ := Pats.at hps hi
      subst hga
      have i0 : (0 : Int) ≤ (i : Int) := by omega
      have i2 : (i : Int) < (p.length : Int) := by omega
      have wi1 : IntKind.i64.wrap ((i : Int) + 1) = (i : Int) + 1 := IntWalk.i64_in _ (by omega)
      have wi2 : IntKind.i64.wrap ((i : Int) - 1) = (i : Int) - 1 := IntWalk.i64_in _ (by omega)
      have hal : (wr.alloc (.cells #[.bool p[i].gap, .int .u64 (word p[i].cls 0 : Int), .int .u64 (word p[i].cls 1 : Int), .int .u64 (word p[i].cls 2 : Int), .int .u64 (word p[i].cls 3 : Int), .int .i64 p[i].low, .int .i64 p[i].high] 70)).heap[wr.heap.size]? = _ := heap_alloc_new _ _
      have hba := (Below.refl wr.heap.size wr).alloc (Nat.le_refl _) (.cells #[.bool p[i].gap, .int .u64 (word p[i].cls 0 : Int), .int .u64 (word p[i].cls 1 : Int), .int .u64 (word p[i].cls 2 : Int), .int .u64 (word p[i].cls 3 : Int), .int .i64 p[i].low, .int .i64 p[i].high] 70)
      have hW1 := hWr.below hba
      have HO1 := Lib.hid (hO.trans (Only.of_below hba))
      cases hg : p[i].gap
      · rw [hg] at e0 hal hba hW1 HO1
        obtain ⟨f0, f1⟩ := hW1.cells
        obtain ⟨bm, hbm, cm, hm⟩ := hW1.map (i := i) (by omega)
        have hlk := hm.look 0 (by omega)
        rw [show part b p s k (i + 1) i 0 = pre b p s i k by unfold part; rw [if_pos (by omega), sees_zero]] at hlk
        have hlk2 : (Instr.lookup 101 (.map (some bm)) (.int .i64 0) false).run Try.prog (wr.alloc (.cells #[.bool false, .int .u64 (word p[i].cls 0 : Int), .int .u64 (word p[i].cls 1 : Int), .int .u64 (word p[i].cls 2 : Int), .int .u64 (word p[i].cls 3 : Int), .int .i64 p[i].low, .int .i64 p[i].high] 70)) = .ok (.bool (pre b p s i k)) (wr.alloc (.cells #[.bool false, .int .u64 (word p[i].cls 0 : Int), .int .u64 (word p[i].cls 1 : Int), .int .u64 (word p[i].cls 2 : Int), .int .u64 (word p[i].cls 3 : Int), .int .i64 p[i].low, .int .i64 p[i].high] 70)) := hlk
        have g0 := cell_in (i := 1) hal rfl
        have g1 := cell_in (i := 2) hal rfl
        have g2 := cell_in (i := 3) hal rfl
        have g3 := cell_in (i := 4) hal rfl
        have HW1 := Lib.hid hW1
        have K1 := Lib.hid (KH.out p[i].cls (wr.alloc (.cells #[.bool false, .int .u64 (word p[i].cls 0 : Int), .int .u64 (word p[i].cls 1 : Int), .int .u64 (word p[i].cls 2 : Int), .int .u64 (word p[i].cls 3 : Int), .int .i64 p[i].low, .int .i64 p[i].high] 70)))
        unfold setV setC at K1
        clear hWr hO hps hW1 hal hba hlk hm
        cases he : pre b p s i k
        · have HE := Lib.hid he
          rw [he] at hlk2
          have hW1 := HW1.out
          obtain ⟨bm2, hbm2, cm2, hm2⟩ := hW1.map (i := i) (by omega)
          obtain rfl : bm2 = bm := by
            obtain ⟨_, e1⟩ := hbm
            obtain ⟨_, e2⟩ := hbm2
            rw [← e1, ← e2]
          obtain ⟨q0, q1⟩ := hW1.cells
          obtain ⟨vd, hdel, hmd, hgd⟩ := hm2.drop 0 (by omega) 0
          have hdel2 : (Builtin.delete_ #[101, 3] 0 #[.map (some bm2), .int .i64 0]).run Try.prog (wr.alloc (.cells #[.bool false, .int .u64 (word p[i].cls 0 : Int), .int .u64 (word p[i].cls 1 : Int), .int .u64 (word p[i].cls 2 : Int), .int .u64 (word p[i].cls 3 : Int), .int .i64 p[i].low, .int .i64 p[i].high] 70)) = .ok (.tuple #[]) vd := hdel
          have hfin := (hW1.turn hbm2 hmd hgd).congr (st' := part b p s k i) (fun j c _ => by
            rw [← part_byte HK.out hi hg HBy.out false (by rw [HE.out]; try rfl) j c]
            skip
            by_cases e : j = i
            · subst e; simp [Bool.and_comm, Bool.or_comm]
            · simp [e])
          have HF := Lib.hid hfin
          have HON := Lib.hid (HO1.out.trans (Only.grown hgd hbm2))
          clear hW1 hm2 hdel hmd hgd hfin he
          go_wp2_with fail
          exact ⟨⟨i, by omega, rfl, HF.out, HON.out⟩, by simp [intOf]⟩
        · have HE := Lib.hid he
          rw [he] at hlk2
          cases hh : hasB p[i].cls Y
          · rw [hh] at K1
            have HY := Lib.hid hh
            clear he hh
            go_wp2_with fail
            refine K1.out.mono ?_
            rintro e w2 ⟨rfl, hb2⟩
            have hW2 := HW1.out.below hb2
            have HO2 := Lib.hid (HO1.out.trans (Only.of_below hb2))
            obtain ⟨bm2, hbm2, cm2, hm2⟩ := hW2.map (i := i) (by omega)
            obtain ⟨q0, q1⟩ := hW2.cells
            obtain ⟨vd, hdel, hmd, hgd⟩ := hm2.drop 0 (by omega) 0
            have hdel2 : (Builtin.delete_ #[101, 3] 0 #[.map (some bm2), .int .i64 0]).run Try.prog w2 = .ok (.tuple #[]) vd := hdel
            have hfin := (hW2.turn hbm2 hmd hgd).congr (st' := part b p s k i) (fun j c _ => by
              rw [← part_byte HK.out hi hg HBy.out false (by rw [HYE.out, HY.out, HE.out]; try rfl) j c]
              skip
              by_cases e : j = i
              · subst e; simp [Bool.and_comm, Bool.or_comm]
              · simp [e])
            have HF := Lib.hid hfin
            have HON := Lib.hid (HO2.out.trans (Only.grown hgd hbm2))
            clear hW2 hm2 hdel hmd hgd hfin hb2
            go_wp2_with fail
            exact ⟨⟨i, by omega, rfl, HF.out, HON.out⟩, by simp [intOf]⟩
          · rw [hh] at K1
            have HY := Lib.hid hh
            clear he hh
            go_wp2_with fail
            refine K1.out.mono ?_
            rintro e w2 ⟨rfl, hb2⟩
            have hW2 := HW1.out.below hb2
            have HO2 := Lib.hid (HO1.out.trans (Only.of_below hb2))
            have K2 := Lib.hid (enter_p hW2 HK.out (i + 1) (by omega))
            rw [show ((i + 1 : Nat) : Int) = (i : Int) + 1 by omega] at K2
            obtain ⟨q0, q1⟩ := hW2.cells
            clear hW2 hb2
            go_wp2_with fail
            refine K2.out.mono ?_
            rintro e w3 ⟨rfl, hW3, hO3⟩
            obtain ⟨bm2, hbm2, cm2, hm2⟩ := hW3.map (i := i) (by omega)
            obtain ⟨q0, q1⟩ := hW3.cells
            obtain ⟨vd, hdel, hmd, hgd⟩ := hm2.drop 0 (by omega) 0
            have hdel2 : (Builtin.delete_ #[101, 3] 0 #[.map (some bm2), .int .i64 0]).run Try.prog w3 = .ok (.tuple #[]) vd := hdel
            have hfin := (hW3.turn hbm2 hmd hgd).congr (st' := part b p s k i) (fun j c _ => by
              rw [← part_byte HK.out hi hg HBy.out true (by rw [HYE.out, HY.out, HE.out]; try rfl) j c]
              unfold enterS
              by_cases e : j = i
              · subst e; simp [Bool.and_comm, Bool.or_comm]
              · simp [e])
            have HF := Lib.hid hfin
            have HON := Lib.hid ((HO2.out.trans hO3).trans (Only.grown hgd hbm2))
            clear hW3 hO3 hm2 hdel hmd hgd hfin
            go_wp2_with fail
            exact ⟨⟨i, by omega, rfl, HF.out, HON.out⟩, by simp [intOf]⟩
      · rw [hg] at e0 hal hba hW1 HO1
        obtain ⟨hn1, hgn⟩ := HK.out.gap_next (by rw [gapAt_some hi]; exact hg)
        have hgg := HK.out.gap hi hg
        have b1 := hgg.2.1
        have b2 := hgg.2.2.1
        have b3 := hgg.2.2.2.1
        clear hgg
        have HG := Lib.hid hg
        have HN1 := Lib.hid hn1
        have HGN := Lib.hid hgn
        obtain ⟨f0, f1⟩ := hW1.cells
        obtain ⟨bm, hbm, cm, hm⟩ := hW1.map (i := i) (by omega)
        have HAL := Lib.hid hal
        have HW1 := Lib.hid hW1
        have hXm : wr.heap.size ∉ ms := fun hm => by
          obtain ⟨j, hj, he⟩ := List.getElem_of_mem hm
          have := (hWr.m j hj).lt
          rw [he] at this
          omega
        have HXM := Lib.hid hXm
        have HBM := Lib.hid hbm
        have HMl := Lib.hid (fun q (hq : q ∈ ms) => show q < wr.heap.size from by
          obtain ⟨j, hj, he⟩ := List.getElem_of_mem hq
          have := (hWr.m j hj).lt
          rw [he] at this
          exact this)
        have HXl := Lib.hid (show wr.heap.size < (wr.alloc (.cells #[.bool true, .int .u64 (word p[i].cls 0 : Int), .int .u64 (word p[i].cls 1 : Int), .int .u64 (word p[i].cls 2 : Int), .int .u64 (word p[i].cls 3 : Int), .int .i64 p[i].low, .int .i64 p[i].high] 70)).heap.size by simp)
        clear hWr hO hps hW1 hal hba hm hXm hbm hgn hn1
        go_wp2_with fail
        refine (keys_c bm _).mono ?_
        rintro e w2 ⟨rfl, rfl⟩
        generalize hw1 : wr.alloc (.cells #[.bool true, .int .u64 (word p[i].cls 0 : Int), .int .u64 (word p[i].cls 1 : Int), .int .u64 (word p[i].cls 2 : Int), .int .u64 (word p[i].cls 3 : Int), .int .i64 p[i].low, .int .i64 p[i].high] 70) = w1' at *
        clear hw1
        have hba2 := (Below.refl w1'.heap.size w1').alloc (Nat.le_refl _) (.cells #[.map (some bm)] 101)
        have hW2 := HW1.out.below hba2
        have hm2 : MapIs (w1'.alloc (.cells #[.map (some bm)] 101)) bm (part b p s k (i + 1) i) := by
          obtain ⟨hj, he⟩ := HBM.out
          have h := hW2.m i hj
          rw [he] at h
          exact h
        have KS := Lib.hid (sorted_c hm2 w1'.heap.size (cell_in (heap_alloc_new _ _) rfl))
        have HW2 := Lib.hid hW2
        have HM2 := Lib.hid hm2
        have HO2 := Lib.hid (HO1.out.trans (Only.of_below hba2))
        have HB2 := Lib.hid hba2
        clear hba2 hW2 hm2 f0 f1 cm
        go_wp2_with fail
        refine KS.out.mono ?_
        rintro e w3 ⟨v, L, rfl, hR, hL, hvb, hb3⟩
        obtain ⟨va, vcap, rfl⟩ := Row.form2 hR
        have hW3 := HW2.out.below hb3
        obtain ⟨f0, f1⟩ := hW3.cells
        obtain ⟨bm2, hbm2, cm2, hm3⟩ := hW3.map (i := i) (by omega)
        obtain ⟨w4, hcl, hm4, hg4⟩ := hm3.clear 0
        have hcl2 : (Builtin.clear_ #[101] 0 #[.map (some bm2)]).run Try.prog w3 = .ok (.tuple #[]) w4 := hcl
        have hW4 := (hW3.turn hbm2 hm4 hg4).congr (st' := gapS b p s k i p[i].low p[i].high (L.take 0)) (fun j c _ => by
          unfold gapS
          by_cases e : j = i
          · simp [e]
          · simp [e])
        have hO4 : Only ms w3 w4 := Only.grown hg4 hbm2
        have hvm : ∀ a m c, Value.slice va L.length vcap = .slice (some a) m c → a.block ∉ ms := fun a m c he hin => by
          have h1 := hvb a m c he
          have h2 := HMl.out _ hin
          have h3 := HXl.out
          have h4 := HB2.out.size
          omega
        have hR4 := hO4.row hR hvm
        have hX4 : w4.heap[wr.heap.size]? = some (.cells #[.bool true, .int .u64 (word p[i].cls 0 : Int), .int .u64 (word p[i].cls 1 : Int), .int .u64 (word p[i].cls 2 : Int), .int .u64 (word p[i].cls 3 : Int), .int .i64 p[i].low, .int .i64 p[i].high] 70) :=
          ((hO4.block _ (Nat.lt_of_lt_of_le HXl.out (Nat.le_trans HB2.out.size hb3.size)) HXM.out).trans ((hb3.block _ (Nat.lt_of_lt_of_le HXl.out HB2.out.size)).trans (HB2.out.block _ HXl.out))).trans HAL.out
        have hX4l : wr.heap.size < w4.heap.size := (Array.getElem?_eq_some_iff.1 hX4).1
        have HW4 := Lib.hid hW4
        have HR4 := Lib.hid hR4
        have HX4 := Lib.hid hX4
        have HX4l := Lib.hid hX4l
        have HL := Lib.hid hL
        have HVM := Lib.hid hvm
        have HO4 := Lib.hid ((HO2.out.trans (Only.of_below hb3)).trans hO4)
        have hLm : L.length ≤ 9223372036854775807 := by have := hR.2.1; unfold maxLen at this; omega
        have HLe := Lib.hid (fun n (hn : n ∈ L) => show n ≤ 16 from HM2.out.le ((hL n).1 hn))
        clear hR hL hvb hb3 hW3 hm3 hcl hm4 hg4 hW4 hO4 hvm hR4 hX4 hX4l
        generalize wr.heap.size = X at *
        go_wp2_with fail
        go_loopw [72] (fun qv wr => ∃ q : Nat, q ≤ L.length ∧ qv = .int .i64 (q : Nat) ∧ WalkIn w0 wr W (.slice (some ⟨g, o, none⟩) p.length cap) p A ms (gapS b p s k i p[i].low p[i].high (L.take q)) ∧ Only ms w4 wr) (fun qv _ => L.length - (intOf qv).toNat)
        case atStart => exact ⟨0, by omega, rfl, HW4.out, Only.of_below (Below.refl _ _)⟩
        case round =>
          obtain ⟨q, hq, rfl, hWq, hOq⟩ := hrel
          have HWq := Lib.hid hWq
          have HOq := Lib.hid hOq
          by_cases hqt : q < L.length
          · have hRq : Nats wr (.slice va L.length vcap) L := hOq.row HR4.out HVM.out
            obtain ⟨g2, o2, cp2, he2, hg2, hc2⟩ := Row.cellAt2 hRq hqt (by omega)
            cases he2
            have dn : wr.cell? ⟨g2, o2 + q, none⟩ = some (.int .i64 (L[q] : Int)) := by
              have := hc2 0 (by omega)
              rw [Nat.mul_one, Nat.add_zero] at this
              rw [this]
              simp [ncells, List.getElem?_eq_getElem hqt]
            have hXq : wr.heap[X]? = _ := (hOq.block _ HX4l.out HXM.out).trans HX4.out
            have xl := cell_in (i := 5) hXq rfl
            have xh := cell_in (i := 6) hXq rfl
            obtain ⟨r0, r1⟩ := hWq.cells
            obtain ⟨bq, hbq, cq, hmq⟩ := hWq.map (i := i) (by omega)
            have hn16 := HLe.out L[q] (List.getElem_mem hqt)
            have htk : L.take (q + 1) = L.take q ++ [L[q]] := List.take_succ_eq_append_getElem hqt
            have HTK := Lib.hid htk
            have j0 : (0 : Int) ≤ (q : Int) := by omega
            have j1 : (q : Int) < (L.length : Int) := by omega
            have wq1 : IntKind.i64.wrap ((q : Int) + 1) = (q : Int) + 1 := IntWalk.i64_in _ (by omega)
            clear hRq hc2 hXq hWq hOq htk
            generalize L[q] = n at *
            have wn1 : IntKind.i64.wrap ((n : Int) + 1) = (n : Int) + 1 := IntWalk.i64_in _ (by omega)
            by_cases hh : (n : Int) < p[i].high
            · obtain ⟨w5, hst, hm5, hg5⟩ := hmq.store (n + 1) (by omega)
              have hst2 : (Instr.mapUpdate 101 (.map (some bq)) (.int .i64 ((n : Int) + 1)) (.bool true)).run Try.prog wr = .ok () w5 := hst
              have hW5 := HWq.out.turn hbq hm5 hg5
              have hO5 : Only ms wr w5 := Only.grown hg5 hbq
              have hX5 : w5.heap[X]? = _ := (hO5.block _ (Nat.lt_of_lt_of_le HX4l.out HOq.out.size) HXM.out).trans ((HOq.out.block _ HX4l.out HXM.out).trans HX4.out)
              have yl := cell_in (i := 5) hX5 rfl
              obtain ⟨s0, s1⟩ := hW5.cells
              by_cases hl : p[i].low ≤ (n : Int) + 1
              · have K5 := Lib.hid (enter_p hW5 HK.out (i + 1) (by omega))
                rw [show ((i + 1 : Nat) : Int) = (i : Int) + 1 by omega] at K5
                have HC := Lib.hid (show ∀ j c, enterS p (fun j c => if j = i then (decide (c = n + 1) || gapS b p s k i p[i].low p[i].high (L.take q) i c) else gapS b p s k i p[i].low p[i].high (L.take q) j c) (i + 1) j c = gapS b p s k i p[i].low p[i].high (L.take (q + 1)) j c from fun j c => by
                  rw [HTK.out]
                  unfold enterS gapS
                  rw [gap0_gap HGN.out]
                  by_cases e : j = i
                  · subst e
                    simp [hh, Bool.or_comm, eq_comm]
                  · simp [e, hh, hl]
                    generalize ((List.take q L).any fun n => decide ((n : Int) < p[i].high) && decide (p[i].low ≤ (n : Int) + 1)) = T
                    cases T <;> cases part b p s k (i + 1) j c <;> simp)
                have HO5 := Lib.hid (HOq.out.trans hO5)
                clear hst hm5 hg5 hW5 hO5 hX5 hmq
                go_wp2_with fail
                refine K5.out.mono ?_
                rintro e w6 ⟨rfl, hW6, hO6⟩
                have HW6 := Lib.hid (hW6.congr (fun j c _ => HC.out j c))
                have HO6 := Lib.hid (HO5.out.trans hO6)
                clear hW6 hO6
                go_wp2_with fail
                exact ⟨⟨q + 1, by omega, by go_num, HW6.out, HO6.out⟩, by simp [intOf]; omega⟩
              · have HC := Lib.hid (hW5.congr (st' := gapS b p s k i p[i].low p[i].high (L.take (q + 1))) (fun j c _ => by
                  rw [HTK.out]
                  unfold gapS
                  by_cases e : j = i
                  · subst e
                    simp [hh, Bool.or_comm, eq_comm]
                  · simp [e, hh, hl]))
                have HO5 := Lib.hid (HOq.out.trans hO5)
                clear hst hm5 hg5 hW5 hO5 hX5 hmq
                go_wp2_with fail
                exact ⟨⟨q + 1, by omega, by go_num, HC.out, HO5.out⟩, by simp [intOf]; omega⟩
            · have HC := Lib.hid (HWq.out.congr (st' := gapS b p s k i p[i].low p[i].high (L.take (q + 1))) (fun j c _ => by
                rw [HTK.out]
                unfold gapS
                by_cases e : j = i
                · subst e
                  simp [hh]
                · simp [e, hh]))
              clear hmq
              go_wp2_with fail
              exact ⟨⟨q + 1, by omega, by go_num, HC.out, HOq.out⟩, by simp [intOf]; omega⟩
          · obtain rfl : L.length = q := by omega
            have j1 : ¬ ((L.length : Int) < (L.length : Int)) := by omega
            have HF := Lib.hid (HWq.out.congr (st' := part b p s k i) (fun j c _ => by
              rw [List.take_of_length_le (Nat.le_refl _)]
              exact gapS_end HK.out hi HG.out HL.out j c))
            have HON := Lib.hid (HO4.out.trans HOq.out)
            clear hWq hOq
            go_wp2_with fail
            exact ⟨⟨i, by omega, rfl, HF.out, HON.out⟩, by simp [intOf]⟩
end Go.Proofs.Ytafdaiidnphbaaa

/- over: was the whole pattern read? walk: a pattern that has read nothing. -/
namespace Go.Proofs.Ytafdaiidnphbaaa
open Go.RowKit Go.Sort Go.Maps

def OverP (w0 w : World) (W : Nat) (pv : Value) (p : List El) (A : Nat) (ms : List Nat) (st : Nat → Nat → Bool) (e : Ending) (w' : World) : Prop :=
  e = .returned (.bool (st p.length 0)) ∧ WalkIn w0 w' W pv p A ms (fun j c => st j c && !(decide (j = p.length) && decide (c = 0))) ∧ Only ms w w'
set_option maxRecDepth 100000 in
set_option maxHeartbeats 4000000 in
theorem over_p {w0 w : World} {W : Nat} {pv : Value} {p : List El} {A : Nat} {ms : List Nat} {st : Nat → Nat → Bool} (h : WalkIn w0 w W pv p A ms st) (hs : p.length ≤ 512) :
    Calls Try.prog 46 #[.pointer (some ⟨W, 0, none⟩)] w (OverP w0 w W pv p A ms st) := by
  have HW := Lib.hid h
  obtain ⟨c0, c1⟩ := h.cells
  obtain ⟨b, hb, cm, hm⟩ := h.map (i := p.length) (Nat.le_refl _)
  obtain ⟨a, cap, rfl⟩ := Row.form2 h.pats
  have q0 := fun d os => cell_regrown c0 d os
  have q1 := fun d os => cell_regrown c1 d os
  have q2 := fun d os => cell_regrown cm d os
  have HBm := Lib.hid hb
  have i0 : (0 : Int) ≤ (p.length : Int) := by omega
  have i1 : (p.length : Int) < (p.length : Int) + 1 := by omega
  clear h c0 c1 cm hm hb
  go_enter Try.func46, Try.ntmps46
  go_wp2_with fail
  refine wp_region_quiet_below (by kernel_rfl) (by kernel_rfl) ?_
  repeat (go_big_quiet_step (fail))
  refine wpQuiet_nil ?_
  intro _ hw'
  obtain ⟨⟨dq, osq⟩, hw''⟩ := hw'
  subst hw''
  have hW2 := HW.out.below (below_regrown w dq osq)
  have HO2 := Lib.hid (Only.of_below (ms := ms) (below_regrown w dq osq))
  generalize Go.Sort.grow _ _ = w2 at *
  have hm2 : MapIs w2 b (st p.length) := by
    obtain ⟨hj, he⟩ := HBm.out
    have h := hW2.m p.length hj
    rw [he] at h
    exact h
  have hlk := hm2.look 0 (by omega)
  have hlk2 : (Instr.lookup 101 (.map (some b)) (.int .i64 0) false).run Try.prog w2 = .ok (.bool (st p.length 0)) w2 := hlk
  obtain ⟨w3, hd, hm3, hg3⟩ := hm2.drop 0 (by omega) 0
  have hd2 : (Builtin.delete_ #[101, 3] 0 #[.map (some b), .int .i64 0]).run Try.prog w2 = .ok (.tuple #[]) w3 := hd
  have HF := Lib.hid ((hW2.turn HBm.out hm3 hg3).congr (st' := fun j c => st j c && !(decide (j = p.length) && decide (c = 0))) (fun j c _ => by
    by_cases e : j = p.length
    · subst e; simp
    · simp [e]))
  have HON := Lib.hid (HO2.out.trans (Only.grown hg3 HBm.out))
  clear q0 q1 q2 hW2 hm2 hlk hd hm3 hg3
  go_wp2_with fail
  go_ret
  exact show OverP _ _ _ _ _ _ _ _ _ _ from ⟨rfl, HF.out, HON.out⟩
end Go.Proofs.Ytafdaiidnphbaaa

/- walk: a pattern that has read nothing. -/
namespace Go.Proofs.Ytafdaiidnphbaaa
open Go.RowKit Go.Sort Go.Maps

theorem free_in {W : World} {A i : Nat} {c : Array Value} {t : TypeId} (h : W.heap[A]? = some (.cells c t)) : W.frozen? ⟨A, i, none⟩ = false := by
  unfold World.frozen?; rw [h]; simp
theorem infoMap : (Try.prog.info? 101).map (fun i => (i.zero, i.size, i.bytes)) = some (some (Value.map none), 1, 8) := by kernel_rfl
def NewP (w : World) (pv : Value) (p : List El) (e : Ending) (w' : World) : Prop := ∃ W A ms, e = .returned (.pointer (some ⟨W, 0, none⟩)) ∧ WalkIn w w' W pv p A ms (fun _ _ => false)
/-- the maps that were made so far -/
structure MakeIn (w0 w : World) (W : Nat) (pv : Value) (p : List El) (A : Nat) (ms : List Nat) (i : Nat) : Prop where
  hw : w.heap[W]? = some (.cells #[pv, .slice (some ⟨A, 0, none⟩) (p.length + 1) (p.length + 1)] 100)
  ha : w.heap[A]? = some (.cells (mcells ms ++ List.replicate (p.length + 1 - i) (Value.map none)).toArray 101)
  len : ms.length = i
  m : ∀ j (h : j < ms.length), MapIs w ms[j] (fun _ => false)
  nd : (W :: A :: ms).Nodup
  lo : ∀ k ∈ W :: A :: ms, w0.heap.size ≤ k ∧ k < w.heap.size
  b : Below w0.heap.size w0 w
theorem MakeIn.next {w0 w : World} {W : Nat} {pv : Value} {p : List El} {A : Nat} {ms : List Nat} {i : Nat} (h : MakeIn w0 w W pv p A ms i) (hi : i < p.length + 1) :
    MakeIn w0 ((w.alloc (.map #[] 0)).setCell ⟨A, i, none⟩ (.map (some w.heap.size))) W pv p A (ms ++ [w.heap.size]) (i + 1) := by
  have hs0 := h.b.size
  have hAl := (h.lo A (by simp)).2
  have hWl := (h.lo W (by simp)).2
  have hnd := h.nd
  rw [List.nodup_cons, List.nodup_cons] at hnd
  obtain ⟨n1, n2, n3⟩ := hnd
  have hWA : W ≠ A := fun e => n1 (by simp [e])
  have far : ∀ k, k ≠ A → k < w.heap.size → ((w.alloc (.map #[] 0)).setCell ⟨A, i, none⟩ (.map (some w.heap.size))).heap[k]? = w.heap[k]? := fun k hk hl => by
    rw [Below.heap_setCell _ _ _ _ hk, Below.heap_alloc _ _ _ hl]
  have hA2 : (w.alloc (.map #[] 0)).heap[A]? = some (.cells (mcells ms ++ List.replicate (p.length + 1 - i) (Value.map none)).toArray 101) := (Below.heap_alloc _ _ _ hAl).trans h.ha
  refine ⟨(far W hWA hWl).trans h.hw, ?_, by simp [h.len], fun j hj => ?_, ?_, fun k hk => ?_, (h.b.alloc hs0 _).setCell (by exact (h.lo A (by simp)).1) _⟩
  · rw [heap_setCell_at _ hA2]
    congr 2
    apply Array.ext'
    have e : p.length + 1 - i = (p.length + 1 - (i + 1)) + 1 := by omega
    rw [e, List.replicate_succ]
    have hl := h.len
    simp [mcells, hl]
  · by_cases hjl : j < ms.length
    · rw [List.getElem_append_left hjl]
      have hin : ms[j] ∈ ms := List.getElem_mem hjl
      exact (h.m j hjl).keep (far _ (fun e => n2 (e ▸ hin)) (h.lo _ (by simp [hin])).2)
    · have : j = ms.length := by simp at hj; omega
      subst this
      rw [List.getElem_append_right (by omega)]
      simp only [Nat.sub_self, List.getElem_cons_zero]
      exact (mapIs_made w).keep (Below.heap_setCell _ _ _ _ (by show w.heap.size ≠ A; omega))
  · rw [List.nodup_cons, List.nodup_cons, List.nodup_append]
    refine ⟨fun hm => ?_, fun hm => ?_, n3, by simp, fun x hx y hy e => ?_⟩
    · simp only [List.mem_cons, List.mem_append, List.not_mem_nil, or_false] at hm
      rcases hm with e | e | e
      · exact hWA e
      · exact n1 (by simp [e])
      · omega
    · simp only [List.mem_append, List.mem_singleton] at hm
      rcases hm with e | e
      · exact n2 e
      · omega
    · rw [List.mem_singleton] at hy
      have := (h.lo x (by simp [hx])).2
      omega
  · simp only [List.mem_cons, List.mem_append, List.not_mem_nil, or_false] at hk
    have hsz : ((w.alloc (.map #[] 0)).setCell ⟨A, i, none⟩ (.map (some w.heap.size))).heap.size = w.heap.size + 1 := by simp [World.size_setCell]
    rw [hsz]
    rcases hk with e | e | e | e
    · have := h.lo k (by simp [e]); omega
    · have := h.lo k (by simp [e]); omega
    · have := h.lo k (by simp [e]); omega
    · omega
set_option maxRecDepth 100000 in
set_option maxHeartbeats 8000000 in
theorem walk_p (pv : Value) (p : List El) (w : World) (h : Pats w pv p) (hs : p.length ≤ 512) : Calls Try.prog 43 #[pv] w (NewP w pv p) := by
  have HP := Lib.hid h
  obtain ⟨a, cap, rfl⟩ := Row.form2 h
  clear h
  obtain ⟨i0, hi, hz0, hz1, hz2⟩ := info_parts infoMap
  have w1 : IntKind.i64.wrap ((p.length : Int) + 1) = (p.length : Int) + 1 := IntWalk.i64_in _ (by omega)
  have hmm := @run_makeMap Try.prog
  go_enter Try.func43, Try.ntmps43
  go_wp2_with (first | (at_make; refine wpList_make_full _ rfl _ _ 98 rfl w.heap.size 101 i0 _ 1 Try.underlying98 hi hz0 hz1 _ _ _ _ (p.length + 1) rfl rfl (by omega) (by omega) (by rw [hz2]; omega) (by unfold maxLen; omega) (Nat.le_refl _) ?_; intro w1' hown hgrow))
  have hb1 : Below w.heap.size w w1' := (Below.refl _ _).grown hgrow (Nat.le_refl _) (fun q e => by cases e)
  have hA : w1'.heap[w.heap.size]? = some (.cells (List.replicate (p.length + 1) (Value.map none)).toArray 101) := by
    have hown2 : w1'.ownsRow w.heap.size 101 1 (.slice (some ⟨w.heap.size, 0, none⟩) (p.length + 1) (p.length + 1)) (p.length + 1) (madeCells #[Value.map none] ((p.length + 1) * 1)).toList := hown
    rw [Nat.mul_one, toList_madeCells_one] at hown2
    rcases hown2.2 with ⟨_, h0⟩ | ⟨g1, cap1, cur, he, hgb, hg, _, _, hs, ht⟩
    · omega
    · injection he with e1 e2 e3
      injection e1 with e1
      injection e1 with e1
      subst e1
      subst e3
      have hcur : cur = (List.replicate (p.length + 1) (Value.map none)).toArray := by
        apply Array.ext'
        rw [Nat.mul_one, List.take_of_length_le (by rw [Array.length_toList]; omega)] at ht
        rw [ht]
      rw [hg, hcur]
  have hAl : w.heap.size < w1'.heap.size := (Array.getElem?_eq_some_iff.1 hA).1
  have HM := Lib.hid (show MakeIn w (w1'.alloc (.cells #[.slice a p.length cap, .slice (some ⟨w.heap.size, 0, none⟩) (p.length + 1) (p.length + 1)] 100)) w1'.heap.size (.slice a p.length cap) p w.heap.size [] 0 from
    ⟨heap_alloc_new _ _, by rw [Below.heap_alloc _ _ _ hAl, hA]; simp [mcells], rfl, fun j hj => by simp at hj, by simp; omega, fun k hk => by
      simp at hk
      rcases hk with rfl | rfl
      · simp; omega
      · simp; omega, hb1.alloc hb1.size _⟩)
  have hx1 := cell_in (i := 1) HM.out.hw rfl
  have hx2 := (Below.refl w1'.heap.size w1').alloc (Nat.le_refl _) (.cells #[.slice a p.length cap, .slice (some ⟨w.heap.size, 0, none⟩) (p.length + 1) (p.length + 1)] 100)
  clear hown hgrow hb1 hA hz0 hz1 hz2 hi hx2
  generalize w1'.heap.size = W at *
  generalize w.heap.size = A at *
  go_wp2_with fail
  go_loopw [17] (fun iv wr => ∃ i : Nat, i ≤ p.length + 1 ∧ iv = .int .i64 (i : Nat) ∧ ∃ ms, MakeIn w wr W (.slice a p.length cap) p A ms i) (fun iv _ => p.length + 1 - (intOf iv).toNat)
  case atStart => exact ⟨0, by omega, rfl, [], HM.out⟩
  case round =>
    obtain ⟨i, hi, rfl, ms, hM⟩ := hrel
    have HMr := Lib.hid hM
    have c1 := cell_in (i := 1) hM.hw rfl
    by_cases hlt : i < p.length + 1
    · have hnx := hM.next hlt
      rw [World.setCell_alloc_past _ _ _ _ (hM.lo A (by simp)).2] at hnx
      have HN := Lib.hid hnx
      have hAl := (hM.lo A (by simp)).2
      have hWl := (hM.lo W (by simp)).2
      have fr := free_in (i := i) hM.ha
      have cc : wr.cell? ⟨A, i, none⟩ = some (Value.map none) := cell_in hM.ha (by
        have hl := hM.len
        simp [mcells, List.getElem?_append, hl, List.getElem?_replicate]
        omega)
      have j0 : (0 : Int) ≤ (i : Int) := by omega
      have j1 : (i : Int) < (p.length : Int) + 1 := by omega
      have wi1 : IntKind.i64.wrap ((i : Int) + 1) = (i : Int) + 1 := IntWalk.i64_in _ (by omega)
      clear hM hx1 hnx
      go_wp2_with fail
      exact ⟨⟨i + 1, by omega, by go_num, _, HN.out⟩, by simp [intOf]; omega⟩
    · obtain rfl : i = p.length + 1 := by omega
      have j1 : ¬ ((p.length : Int) + 1 < (p.length : Int) + 1) := by omega
      have HF := Lib.hid (show WalkIn w wr W (.slice a p.length cap) p A ms (fun _ _ => false) from ⟨hM.hw, by have := hM.ha; rw [Nat.sub_self] at this; simpa using this, hM.len, fun j hj => hM.m j hj, hM.nd, fun k hk => (hM.lo k hk).1, hM.b, HP.out⟩)
      clear hM hx1
      go_wp2_with fail
      go_ret
      exact show NewP _ _ _ _ _ from ⟨_, _, _, rfl, HF.out⟩
end Go.Proofs.Ytafdaiidnphbaaa

/- Reading all bytes. -/
namespace Go.Proofs.Ytafdaiidnphbaaa
open Go.RowKit

theorem OkP.first {p : List El} (h : OkP p) : gapAt p 0 = false := by
  cases hg : gapAt p 0
  · rfl
  · have hi : 0 < p.length := h.pos
    rw [gapAt_some hi] at hg
    exact absurd rfl (h.gap hi hg).2.2.2.2.1
theorem fits_first {b : List UInt8} {x : El} {q : List El} {i m : Nat} (hg : x.gap = false) (h : Fits b (x :: q) i m) : i + 1 ≤ m := by
  obtain ⟨k, h1, h2⟩ := fits_cons.1 h
  unfold Fit1 at h1
  rw [hg] at h1
  simp only [Bool.false_eq_true, if_false] at h1
  have := fits_le h2
  omega
theorem pre_pos {b : List UInt8} {p : List El} {s : Nat → Bool} (h : OkP p) {j : Nat} (hj : 1 ≤ j) : pre b p s j 0 = false := by
  cases he : pre b p s j 0
  · rfl
  · unfold pre at he
    rw [reachP_fits] at he
    obtain ⟨i, _, hf⟩ := he
    have h0 := h.pos
    match p, h0, h with
    | x :: q, _, h =>
      have hg : x.gap = false := h.first
      obtain ⟨j', rfl⟩ : ∃ j', j = j' + 1 := ⟨j - 1, by omega⟩
      rw [List.take_succ_cons] at hf
      have := fits_first hg hf
      omega
theorem sees_start {b : List UInt8} {p : List El} {s : Nat → Bool} {j c : Nat} : sees b p s 0 j c = (decide (c = 0) && pre b p s j 0) := by
  by_cases hc : c = 0
  · subst hc; rw [sees_zero]; simp
  · unfold sees
    cases p[j]? with
    | none => simp [hc]
    | some x =>
      simp only
      split
      · simp [hc]
      · simp [hc]
theorem part_last {b : List UInt8} {p : List El} {s : Nat → Bool} {k c : Nat} : part b p s k p.length p.length c = false := by
  unfold part
  rw [if_neg (by omega), if_pos rfl, sees_byte (gapAt_ge (Nat.le_refl _))]
  by_cases hc : c = 0
  · simp [hc]
  · simp [hc]
theorem part_lt {b : List UInt8} {p : List El} {s : Nat → Bool} {k j c : Nat} (h : j < p.length) : part b p s k p.length j c = sees b p s k j c := by
  unfold part; rw [if_pos h]
/-- at the start -/
theorem part_start {b : List UInt8} {p : List El} {s : Nat → Bool} (h : OkP p) (j c : Nat) (hj : j ≤ p.length) : part b p s 0 p.length j c = (decide (c = 0) && (decide (j = 0) && s 0)) := by
  by_cases hl : j = p.length
  · subst hl
    rw [part_last]
    have := h.pos
    simp [show p.length ≠ 0 by omega]
  · rw [part_lt (by omega), sees_start]
    by_cases h0 : j = 0
    · subst h0; simp [pre, reachP]
    · rw [pre_pos h (by omega)]; simp [h0]
/-- behind a byte that all have read -/
theorem part_done {b : List UInt8} {p : List El} {s : Nat → Bool} {k : Nat} (h : OkP p) (j c : Nat) (hj : j ≤ p.length) :
    (part b p s k 0 j c && !(decide (j = p.length) && decide (c = 0))) = (part b p s (k + 1) p.length j c && !(decide (j = 0) && decide (c = 0))) := by
  have hpos := h.pos
  have h0 := h.first
  by_cases hz : j = 0
  · subst hz
    have e1 : part b p s k 0 0 c = (sees b p s (k + 1) 0 c && decide (1 ≤ c)) := by unfold part; rw [if_neg (by omega), if_pos rfl]
    rw [e1, part_lt hpos, sees_byte h0]
    by_cases hc : c = 0
    · simp [hc]
    · simp [hc]
  · have e1 : part b p s k 0 j c = sees b p s (k + 1) j c := by unfold part; rw [if_neg (by omega), if_neg hz, if_neg (by rw [h0]; simp)]
    rw [e1]
    by_cases hl : j = p.length
    · subst hl
      rw [part_last, sees_byte (gapAt_ge (Nat.le_refl _))]
      by_cases hc : c = 0
      · simp [hc]
      · simp [hc]
    · rw [part_lt (by omega)]
      simp [hl, hz]
theorem part_over {b : List UInt8} {p : List El} {s : Nat → Bool} {k : Nat} (h : OkP p) : part b p s k 0 p.length 0 = reachP b p s (k + 1) := by
  have hpos := h.pos
  unfold part
  rw [if_neg (by omega), if_neg (by omega), if_neg (by rw [h.first]; simp), sees_zero]
  unfold pre
  rw [List.take_of_length_le (Nat.le_refl _)]
theorem reach_zero {b : List UInt8} {p : List El} {s : Nat → Bool} (h : OkP p) : reachP b p s 0 = false := by
  have := pre_pos (b := b) (s := s) h (j := p.length) h.pos
  unfold pre at this
  rwa [List.take_of_length_le (Nat.le_refl _)] at this
end Go.Proofs.Ytafdaiidnphbaaa
