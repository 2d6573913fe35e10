/- Sorting that keeps the order of equals: blocks, then merging. -/
import Derived.Test.YtcphdmhcpjfedaaSe
namespace Go.Proofs.Ytcphdmhcpjfedaa
open Go.RowKit

/-- the part from l to r is sorted and has its numbers from the same part of f0 -/
def Don (ky : Int → Int) (f0 f2 : Nat → Int) (l r : Nat) : Prop := Srt ky f2 l r ∧ ∀ i, l ≤ i → i < r → ∃ j, l ≤ j ∧ j < r ∧ f2 i = f0 j
theorem Don.off {ky : Int → Int} {f0 f2 f3 : Nat → Int} {l r a b : Nat} (h : Don ky f0 f2 l r) (hf : Frm f3 f2 a b) (ho : b ≤ l ∨ r ≤ a) : Don ky f0 f3 l r :=
  ⟨h.1.off hf ho, fun i h1 h2 => by rw [hf.2 i (by omega)]; exact h.2 i h1 h2⟩
theorem Don.crs {ky : Int → Int} {f0 f2 : Nat → Int} {l m r : Nat} (h : Don ky f0 f2 l m) (k : Don ky f0 f2 m r) (hinc : ∀ i j, l ≤ i → i < j → j < r → f0 i < f0 j) : Crs f2 l m r := by
  intro i j h1 h2 h3 h4
  obtain ⟨i', a1, a2, e1⟩ := h.2 i h1 h2
  obtain ⟨j', b1, b2, e2⟩ := k.2 j h3 h4
  rw [e1, e2]; exact hinc _ _ a1 (by omega) b2
theorem Don.merge {ky : Int → Int} {f0 f2 f3 : Nat → Int} {l m r : Nat} (h : Don ky f0 f2 l m) (k : Don ky f0 f2 m r) (h1 : l ≤ m) (h2 : m ≤ r) (hs : Srt ky f3 l r) (hf : Frm f3 f2 l r) : Don ky f0 f3 l r := by
  refine ⟨hs, fun i hi1 hi2 => ?_⟩
  obtain ⟨j, j1, j2, e⟩ := hf.1 i hi1 hi2
  rw [e]
  by_cases x : j < m
  · obtain ⟨j', a1, a2, e1⟩ := h.2 j j1 x
    exact ⟨j', a1, by omega, e1⟩
  · obtain ⟨j', a1, a2, e1⟩ := k.2 j (by omega) j2
    exact ⟨j', by omega, a2, e1⟩
/-- every block of s is done -/
def Blk (ky : Int → Int) (f0 f2 : Nat → Int) (s n : Nat) : Prop := ∀ v, s * v ≤ n → Don ky f0 f2 (s * v) (min (s * v + s) n)
def Inc (f0 : Nat → Int) (n : Nat) : Prop := ∀ i j, i < j → j < n → f0 i < f0 j

/-- the inner loop: blocks of two s done below a, blocks of s from a on -/
structure Half (ky : Int → Int) (f0 f2 : Nat → Int) (s n t : Nat) : Prop where
  lo : ∀ u, u < t → Don ky f0 f2 (s * (2 * u)) (s * (2 * u) + 2 * s)
  hi : ∀ v, 2 * t ≤ v → s * v ≤ n → Don ky f0 f2 (s * v) (min (s * v + s) n)

theorem Half.start {ky : Int → Int} {f0 f2 : Nat → Int} {s n : Nat} (h : Blk ky f0 f2 s n) : Half ky f0 f2 s n 0 := ⟨fun u hu => by omega, fun v _ hv => h v hv⟩
theorem dbl (s t : Nat) : s * (2 * t + 1) = s * (2 * t) + s ∧ s * (2 * t + 2) = s * (2 * t) + 2 * s ∧ s * (2 * (t + 1)) = s * (2 * t) + 2 * s := by
  refine ⟨by grind, by grind, by grind⟩
theorem Half.pair {ky : Int → Int} {f0 f2 : Nat → Int} {s n t : Nat} (h : Half ky f0 f2 s n t) (hb : s * (2 * t) + 2 * s ≤ n) :
    Don ky f0 f2 (s * (2 * t)) (s * (2 * t) + s) ∧ Don ky f0 f2 (s * (2 * t) + s) (s * (2 * t) + 2 * s) := by
  obtain ⟨d1, d2, d3⟩ := dbl s t
  have x := h.hi (2 * t) (Nat.le_refl _) (by omega)
  have y := h.hi (2 * t + 1) (by omega) (by omega)
  rw [show min (s * (2 * t) + s) n = s * (2 * t) + s by omega] at x
  rw [d1, show min (s * (2 * t) + s + s) n = s * (2 * t) + 2 * s by omega] at y
  exact ⟨x, y⟩
theorem Half.last {ky : Int → Int} {f0 f2 : Nat → Int} {s n t : Nat} (h : Half ky f0 f2 s n t) (hb : ¬ s * (2 * t) + 2 * s ≤ n) (ha : s * (2 * t) + s < n) :
    Don ky f0 f2 (s * (2 * t)) (s * (2 * t) + s) ∧ Don ky f0 f2 (s * (2 * t) + s) n := by
  obtain ⟨d1, d2, d3⟩ := dbl s t
  have x := h.hi (2 * t) (Nat.le_refl _) (by omega)
  have y := h.hi (2 * t + 1) (by omega) (by omega)
  rw [show min (s * (2 * t) + s) n = s * (2 * t) + s by omega] at x
  rw [d1, show min (s * (2 * t) + s + s) n = n by omega] at y
  exact ⟨x, y⟩
theorem Half.next {ky : Int → Int} {f0 f2 f3 : Nat → Int} {s n t : Nat} (h : Half ky f0 f2 s n t) (hb : s * (2 * t) + 2 * s ≤ n) (hs : Srt ky f3 (s * (2 * t)) (s * (2 * t) + 2 * s)) (hf : Frm f3 f2 (s * (2 * t)) (s * (2 * t) + 2 * s)) : Half ky f0 f3 s n (t + 1) := by
  obtain ⟨d1, d2, d3⟩ := dbl s t
  obtain ⟨x, y⟩ := h.pair hb
  refine ⟨fun u hu => ?_, fun v hv hn => ?_⟩
  · by_cases e : u = t
    · subst e; exact x.merge y (by omega) (by omega) hs hf
    · have := Nat.mul_le_mul_left s (show 2 * u + 2 ≤ 2 * t by omega)
      have e2 := (dbl s u).2.1
      exact (h.lo u (by omega)).off hf (.inr (by omega))
  · have := Nat.mul_le_mul_left s (show 2 * t + 2 ≤ v by omega)
    exact (h.hi v (by omega) hn).off hf (.inl (by omega))
theorem Half.fin {ky : Int → Int} {f0 f2 f3 : Nat → Int} {s n t : Nat} (h : Half ky f0 f2 s n t) (hb : ¬ s * (2 * t) + 2 * s ≤ n) (hm : Don ky f0 f3 (s * (2 * t)) n) (hf : Frm f3 f2 (s * (2 * t)) n) (han : s * (2 * t) ≤ n) : Blk ky f0 f3 (2 * s) n := by
  intro v hv
  have e0 : 2 * s * v = s * (2 * v) := by grind
  rw [e0] at hv ⊢
  rcases Nat.lt_trichotomy v t with hl | he | hg
  · have := Nat.mul_le_mul_left s (show 2 * v + 2 ≤ 2 * t by omega)
    have e2 := (dbl s v).2.1
    rw [show min (s * (2 * v) + 2 * s) n = s * (2 * v) + 2 * s by omega]
    exact (h.lo v hl).off hf (.inr (by omega))
  · subst he
    rw [show min (s * (2 * v) + 2 * s) n = n by omega]; exact hm
  · have := Nat.mul_le_mul_left s (show 2 * t + 2 ≤ 2 * v by omega)
    have e2 := (dbl s t).2.1
    omega
theorem Half.fin0 {ky : Int → Int} {f0 f2 : Nat → Int} {s n t : Nat} (h : Half ky f0 f2 s n t) (hb : ¬ s * (2 * t) + s < n) (hs : 0 < s) (han : s * (2 * t) ≤ n) : Blk ky f0 f2 (2 * s) n := by
  have x := h.hi (2 * t) (Nat.le_refl _) han
  rw [show min (s * (2 * t) + s) n = n by omega] at x
  exact h.fin (by omega) x (Frm.refl _ _ _) han

/-- the first loop: blocks of s done below s t, the rest untouched -/
structure Part (ky : Int → Int) (f0 f2 : Nat → Int) (s t : Nat) : Prop where
  lo : ∀ u, u < t → Don ky f0 f2 (s * u) (s * u + s)
  hi : ∀ i, s * t ≤ i → f2 i = f0 i
theorem Don.raw {ky : Int → Int} {f0 f2 f3 : Nat → Int} {l r : Nat} (hu : ∀ i, l ≤ i → f2 i = f0 i) (hs : Srt ky f3 l r) (hf : Frm f3 f2 l r) : Don ky f0 f3 l r :=
  ⟨hs, fun i h1 h2 => by obtain ⟨j, j1, j2, e⟩ := hf.1 i h1 h2; exact ⟨j, j1, j2, by rw [e, hu j j1]⟩⟩
theorem Part.next {ky : Int → Int} {f0 f2 f3 : Nat → Int} {s t : Nat} (h : Part ky f0 f2 s t) (hs : Srt ky f3 (s * t) (s * t + s)) (hf : Frm f3 f2 (s * t) (s * t + s)) : Part ky f0 f3 s (t + 1) := by
  refine ⟨fun u hu => ?_, fun i hi => ?_⟩
  · by_cases e : u = t
    · subst e; exact Don.raw h.hi hs hf
    · have := Nat.mul_le_mul_left s (show u + 1 ≤ t by omega)
      rw [Nat.mul_succ] at this
      exact (h.lo u (by omega)).off hf (.inr (by omega))
  · rw [Nat.mul_succ] at hi
    rw [hf.2 i (by omega)]; exact h.hi i (by omega)
theorem Part.fin {ky : Int → Int} {f0 f2 f3 : Nat → Int} {s t n : Nat} (h : Part ky f0 f2 s t) (hn : s * t ≤ n) (hb : ¬ s * t + s ≤ n) (hs : Srt ky f3 (s * t) n) (hf : Frm f3 f2 (s * t) n) : Blk ky f0 f3 s n := by
  intro v hv
  rcases Nat.lt_trichotomy v t with hl | he | hg
  · have := Nat.mul_le_mul_left s (show v + 1 ≤ t by omega)
    rw [Nat.mul_succ] at this
    rw [show min (s * v + s) n = s * v + s by omega]
    exact (h.lo v hl).off hf (.inr (by omega))
  · subst he
    rw [show min (s * v + s) n = n by omega]
    exact Don.raw h.hi hs hf
  · have := Nat.mul_le_mul_left s (show t + 1 ≤ v by omega)
    rw [Nat.mul_succ] at this
    omega

/-- the call has sorted the whole array -/
def Sorted (w : World) (g n cap : Nat) (ky : Int → Int) (f : Nat → Int) (e : Ending) (w' : World) : Prop :=
  ∃ f', e = .returned (.tuple #[]) ∧ Arr w' g n cap f' ∧ w.grownBy w' (some g) ∧ Srt ky f' 0 n ∧ ∀ i, i < n → ∃ j, j < n ∧ f' i = f j

end Go.Proofs.Ytcphdmhcpjfedaa
