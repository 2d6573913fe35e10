/- With enough rounds: what a function with rounds comes to. -/
import Derived.Test.YtpplohjbifieiaaVWords
namespace Go.Proofs.Ytpplohjbifieiaa
open Go.RowKit

/-- from some number of rounds on, g answers r -/
def Ev {α : Type} (g : Nat → Option α) (r : α) : Prop := ∃ k0, ∀ k, k0 ≤ k → g k = some r

section
variable {α β : Type} {g : Nat → Option α} {r : α}
theorem Ev.of (h : ∀ k, g k = some r) : Ev g r := ⟨0, fun k _ => h k⟩
theorem Ev.pure (r : α) : Ev (fun _ => some r) r := ⟨0, fun _ _ => rfl⟩
theorem Ev.same {h : Nat → Option α} (e : ∀ k, g k = h k) (hh : Ev h r) : Ev g r := by
  obtain ⟨k0, hk⟩ := hh
  exact ⟨k0, fun k hle => (e k).trans (hk k hle)⟩
theorem Ev.step {h : Nat → Option α} (e : ∀ k, g (k + 1) = h k) (hh : Ev h r) : Ev g r := by
  obtain ⟨k0, hk⟩ := hh
  refine ⟨k0 + 1, fun k hle => ?_⟩
  obtain ⟨m, rfl⟩ : ∃ m, k = m + 1 := ⟨k - 1, by omega⟩
  exact (e m).trans (hk m (by omega))
theorem Ev.bind {f : Nat → α → Option β} {b : β} (hg : Ev g r) (hf : Ev (fun k => f k r) b) : Ev (fun k => (g k).bind (f k)) b := by
  obtain ⟨k0, h0⟩ := hg
  obtain ⟨k1, h1⟩ := hf
  refine ⟨max k0 k1, fun k hk => ?_⟩
  show (g k).bind (f k) = some b
  rw [h0 k (by omega)]
  exact h1 k (by omega)
theorem Ev.bind0 {o : Option α} {f : Nat → α → Option β} {b : β} (hg : o = some r) (hf : Ev (fun k => f k r) b) : Ev (fun k => o.bind (f k)) b := by
  subst hg; exact hf
theorem Ev.pos {c : Prop} [Decidable c] {a b : Nat → Option α} (hc : c) (h : Ev a r) : Ev (fun k => if c then a k else b k) r := by
  simp only [if_pos hc]; exact h
theorem Ev.neg {c : Prop} [Decidable c] {a b : Nat → Option α} (hc : ¬ c) (h : Ev b r) : Ev (fun k => if c then a k else b k) r := by
  simp only [if_neg hc]; exact h
theorem Ev.get (h : Ev g r) : ∃ k, g k = some r := by
  obtain ⟨k0, hk⟩ := h
  exact ⟨k0, hk k0 (Nat.le_refl _)⟩
theorem Ev.eq {s : α} (h : Ev g r) (e : r = s) : Ev g s := e ▸ h
end

theorem w64 {x : Int} (h0 : -9223372036854775808 ≤ x) (h1 : x ≤ 9223372036854775807) : wrap64 x = x := by
  unfold wrap64; omega
theorem w64s {x A : Int} (h0 : -A ≤ x) (h1 : x ≤ A) (hA : A ≤ 9223372036854775807 := by decide) : wrap64 x = x := w64 (by omega) (by omega)
theorem w01 : wrap64 (0 + 1) = 1 := w64 (by omega) (by omega)
theorem w11 : wrap64 (1 + 1) = 2 := w64 (by omega) (by omega)
theorem tmod_nat (a n : Nat) (h : a + 1 ≤ 9223372036854775807) : Int.tmod (wrap64 ((a : Int) + 1)) (n : Int) = (((a + 1) % n : Nat) : Int) := by
  rw [w64 (by omega) (by omega), Int.tmod_eq_emod_of_nonneg (by omega)]; simp
theorem tmod_nat2 (a n : Nat) (h : a + 2 ≤ 9223372036854775807) : Int.tmod (wrap64 ((a : Int) + 2)) (n : Int) = (((a + 2) % n : Nat) : Int) := by
  rw [w64 (by omega) (by omega), Int.tmod_eq_emod_of_nonneg (by omega)]; simp
theorem abs_mul_le {a b A B : Int} (ha : -A ≤ a) (ha' : a ≤ A) (hb : -B ≤ b) (hb' : b ≤ B) : -(A * B) ≤ a * b ∧ a * b ≤ A * B := by
  have h1 : (a * b).natAbs ≤ (A * B).natAbs := by
    rw [Int.natAbs_mul, Int.natAbs_mul]
    exact Nat.mul_le_mul (by omega) (by omega)
  have h2 : 0 ≤ A * B := Int.mul_nonneg (by omega) (by omega)
  omega

end Go.Proofs.Ytpplohjbifieiaa
