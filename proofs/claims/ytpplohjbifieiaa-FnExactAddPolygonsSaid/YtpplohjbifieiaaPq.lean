/- Polygons: the tests, without any program. -/
import Derived.Test.YtpplohjbifieiaaPoly
namespace Go.Proofs.Ytpplohjbifieiaa
open Poly (Pt)

def inB (n lo hi : Int) : Bool := decide (lo ≤ n) && decide (n ≤ hi)
def fitB (x y M : Int) : Bool := inB x (-M) M && inB y (-M) M
/-- both numbers within M -/
structure Bd (M : Int) (p : Pt) : Prop where
  x0 : -M ≤ p.x
  x1 : p.x ≤ M
  y0 : -M ≤ p.y
  y1 : p.y ≤ M

theorem Bd.mono {M N : Int} {p : Pt} (h : Bd M p) (k : M ≤ N) : Bd N p := ⟨by have := h.x0; omega, by have := h.x1; omega, by have := h.y0; omega, by have := h.y1; omega⟩
theorem Bd.sub {M N : Int} {p q : Pt} (h : Bd M p) (k : Bd N q) : Bd (M + N) (Poly.sub p q) := by
  obtain ⟨a0, a1, a2, a3⟩ := h
  obtain ⟨b0, b1, b2, b3⟩ := k
  unfold Poly.sub
  exact ⟨by simp only; omega, by simp only; omega, by simp only; omega, by simp only; omega⟩
/-- the turn at b from a to c -/
def turnD (a b c : Pt) : Int := Poly.det (Poly.sub b a) (Poly.sub c b)

/-- the corners around -/
def cyc (L : List Pt) (k : Nat) : Pt := L.getD (k % L.length) ⟨0, 0⟩
theorem cyc_per (L : List Pt) (k : Nat) : cyc L (k + L.length) = cyc L k := by unfold cyc; rw [Nat.add_mod_right]
theorem cyc_lt {L : List Pt} {k : Nat} (h : k < L.length) : cyc L k = L[k] := by unfold cyc; rw [Nat.mod_eq_of_lt h]; simp [h]
theorem cyc_mod {L : List Pt} {k : Nat} (h : 0 < L.length) : cyc L k = L[k % L.length]'(Nat.mod_lt _ h) := by unfold cyc; simp [Nat.mod_lt _ h]

theorem cyc_of_mod {L : List Pt} {n k j : Nat} (hn : n = L.length) (h : j = k % n) : cyc L j = cyc L k := by subst hn; subst h; unfold cyc; rw [Nat.mod_mod]

structure PolyOk (L : List Pt) : Prop where
  n3 : 3 ≤ L.length
  n12 : L.length ≤ 12
  fits : ∀ i, i < L.length → Bd 1000 (cyc L i)
  left : ∀ i, i < L.length → 0 < turnD (cyc L i) (cyc L (i + 1)) (cyc L (i + 2))
  once : Poly.ups (cyc L) L.length = 1
open Classical in
noncomputable def polyB (L : List Pt) : Bool := decide (PolyOk L)
theorem polyB_true {L : List Pt} (h : PolyOk L) : polyB L = true := by unfold polyB; simp [h]
theorem polyB_false {L : List Pt} (h : ¬ PolyOk L) : polyB L = false := by unfold polyB; simp [h]

theorem fitB_true {p : Pt} {M : Int} : fitB p.x p.y M = true ↔ Bd M p := by
  unfold fitB inB
  simp only [Bool.and_eq_true, decide_eq_true_eq]
  exact ⟨fun h => ⟨h.1.1, h.1.2, h.2.1, h.2.2⟩, fun h => ⟨⟨h.x0, h.x1⟩, ⟨h.y0, h.y1⟩⟩⟩

theorem inB_of {n lo hi : Int} (h : lo ≤ n) (k : n ≤ hi) : inB n lo hi = true := by simp [inB, h, k]
theorem inB_get {n lo hi : Int} (h : inB n lo hi = true) : lo ≤ n ∧ n ≤ hi := by simpa [inB] using h

/-- all other corners lie to the left of each side -/
def Conv (L : List Pt) : Prop := ∀ i k, i < L.length → k < L.length → k ≠ i → k ≠ (i + 1) % L.length → 0 < turnD (cyc L i) (cyc L (i + 1)) (cyc L k)

theorem mod_ne {n i t : Nat} (h0 : 0 < t) (h1 : t < n) : (i + t) % n ≠ i % n := by
  intro h
  have h2 := Nat.sub_mod_eq_zero_of_mod_eq h
  rw [Nat.add_sub_cancel_left, Nat.mod_eq_of_lt h1] at h2
  omega

theorem conv_iff (L : List Pt) (h3 : 3 ≤ L.length) : Conv L ↔ Poly.Convex (cyc L) L.length := by
  constructor
  · intro h i k h1 h2
    have e := h (i % L.length) (k % L.length) (Nat.mod_lt _ (by omega)) (Nat.mod_lt _ (by omega)) ?_ ?_
    · unfold turnD at e
      rw [← Poly.per_mod (cyc_per L) i, ← Poly.per_mod (cyc_per L) k, Poly.per_eq (cyc_per L) (show (i % L.length + 1) % L.length = (i + 1) % L.length by rw [Nat.add_mod, Nat.mod_mod, ← Nat.add_mod])] at e
      exact e
    · have := mod_ne (n := L.length) (i := i) (t := k - i) (by omega) (by omega)
      rwa [show i + (k - i) = k by omega] at this
    · have := mod_ne (n := L.length) (i := i + 1) (t := k - (i + 1)) (by omega) (by omega)
      rw [show i + 1 + (k - (i + 1)) = k by omega] at this
      rwa [show (i % L.length + 1) % L.length = (i + 1) % L.length by rw [Nat.add_mod, Nat.mod_mod, ← Nat.add_mod]]
  · intro h i k hi hk h1 h2
    unfold turnD
    by_cases hik : i < k
    · refine h i k ?_ (by omega)
      apply Nat.lt_of_le_of_ne (by omega)
      intro e
      rw [e, Nat.mod_eq_of_lt hk] at h2
      exact h2 rfl
    · have := h i (k + L.length) ?_ (by omega)
      · rwa [cyc_per] at this
      · apply Nat.lt_of_le_of_ne (by omega)
        intro e
        have e1 : i + 1 = L.length := by omega
        have e2 : k = 0 := by omega
        rw [e1, Nat.mod_self] at h2
        exact h2 e2

theorem polyOk_iff (L : List Pt) : PolyOk L ↔ 3 ≤ L.length ∧ L.length ≤ 12 ∧ (∀ i, i < L.length → Bd 1000 (cyc L i)) ∧ Conv L := by
  constructor
  · intro h
    refine ⟨h.n3, h.n12, h.fits, (conv_iff L h.n3).2 ((Poly.convex_iff h.n3 (cyc_per L)).2 ⟨fun i => ?_, (Poly.ups_once _).1 h.once⟩)⟩
    have hp : 0 < L.length := by have := h.n3; omega
    have e := h.left (i % L.length) (Nat.mod_lt _ hp)
    have e0 : cyc L (i % L.length) = cyc L i := (Poly.per_mod (cyc_per L) i).symm
    have e1 : cyc L (i % L.length + 1) = cyc L (i + 1) := Poly.per_eq (cyc_per L) (by rw [Nat.add_mod, Nat.mod_mod, ← Nat.add_mod])
    have e2 : cyc L (i % L.length + 2) = cyc L (i + 2) := Poly.per_eq (cyc_per L) (by rw [Nat.add_mod, Nat.mod_mod, ← Nat.add_mod])
    rw [e0, e1, e2] at e
    exact e
  · rintro ⟨h3, h12, hf, hc⟩
    have := (Poly.convex_iff h3 (cyc_per L)).1 ((conv_iff L h3).1 hc)
    exact ⟨h3, h12, hf, fun i _ => this.1 i, (Poly.ups_once _).2 this.2⟩


end Go.Proofs.Ytpplohjbifieiaa
