/- sort.Search, of a closure with two captured variables, which may write. -/
import Derived.Test.YtghdgenlkbocmaaLMem
import Derived.Lib.Hide
import Derived.IntWalk
import Derived.Shelf.Abstract
namespace Go.Proofs.Ytghdgenlkbocmaa
open Go.RowKit Go.Shelf

set_option maxRecDepth 100000 in
set_option maxHeartbeats 1000000 in
theorem search_p (fid : FuncId) (hent : ∀ args w, (callFunc fid args).run Try.prog w = .ok (.enter fid args) w) (c1 c2 : Value) (n : Nat) (hn : n ≤ 1000) (p : Nat → Bool) (Inv : World → Prop)
    (hf : ∀ h, h < n → ∀ w, Inv w → Calls Try.prog fid #[.int .i64 (h : Nat), c1, c2] w fun e w' => e = .returned (.bool (p h)) ∧ Inv w') (w : World) (hw : Inv w) :
    Calls Try.prog 48 #[.int .i64 (n : Nat), .func (.func fid) #[] #[c1, c2]] w fun e w' => ∃ r : Nat, e = .returned (.int .i64 (r : Nat)) ∧ r ≤ n ∧ (r = 0 ∨ p (r - 1) = false) ∧ (r = n ∨ p r = true) ∧ Inv w' := by
  have HF := Lib.hid hf
  clear hf
  go_enter Try.func48, Try.ntmps48
  go_wp2_with fail
  go_loopw [5, 6] (fun iv jv wr => ∃ i j : Nat, i ≤ j ∧ j ≤ n ∧ iv = .int .i64 (i : Nat) ∧ jv = .int .i64 (j : Nat) ∧ (i = 0 ∨ p (i - 1) = false) ∧ (j = n ∨ p j = true) ∧ Inv wr) (fun iv jv _ => (intOf jv).toNat - (intOf iv).toNat)
  case atStart => exact ⟨0, n, by omega, by omega, rfl, rfl, .inl rfl, .inl rfl, hw⟩
  case round =>
    obtain ⟨i, j, hij, hjn, rfl, rfl, hpi, hpj, hinv⟩ := hrel
    have HI := Lib.hid hinv
    have HP := Lib.hid hpi
    have HQ := Lib.hid hpj
    clear hinv hpi hpj
    by_cases hlt : i < j
    · obtain ⟨h, hh⟩ : ∃ h, h = (i + j) / 2 := ⟨_, rfl⟩
      have h1 : i ≤ h := by omega
      have h2 : h < j := by omega
      have w1 : IntKind.i64.wrap ((i : Int) + (j : Int)) = ((i + j : Nat) : Int) := by rw [IntWalk.i64_in _ (by omega)]; omega
      have hc := HF.out h (by omega)
      go_wp2_with fail
      have e : ((i : Int) + (j : Int)) / 2 = (h : Nat) := by omega
      rw [e]
      refine (hc wr HI.out).mono ?_
      rintro e2 w2 ⟨rfl, hinv⟩
      have HI2 := Lib.hid hinv
      have E0 := Lib.hid e
      clear hinv e w1
      cases hp : p h
      · go_wp2_with fail
        exact ⟨⟨h + 1, j, by omega, hjn, by first | (rw [E0.out]; go_num) | go_num, rfl, .inr (by simpa using hp), HQ.out, HI2.out⟩, by have := E0.out; simp [intOf]; omega⟩
      · go_wp2_with fail
        exact ⟨⟨i, h, h1, by omega, rfl, by first | rfl | rw [E0.out], HP.out, .inr hp, HI2.out⟩, by have := E0.out; simp [intOf]; omega⟩
    · obtain rfl : i = j := by omega
      go_wp2_with fail
      go_ret
      exact ⟨i, rfl, hjn, HP.out, HQ.out, HI.out⟩
end Go.Proofs.Ytghdgenlkbocmaa
