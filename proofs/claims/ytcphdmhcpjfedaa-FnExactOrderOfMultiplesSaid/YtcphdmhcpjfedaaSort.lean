/- Arrays as functions: turning blocks, merging sorted ones in place; plain mathematics. -/
import Derived.Test.YtcphdmhcpjfedaaKit
namespace Go.Proofs.Ytcphdmhcpjfedaa

/-- x comes ahead of y: by the key, then by itself -/
def Rk (key : Int → Int) (x y : Int) : Prop := key x < key y ∨ (key x = key y ∧ x < y)
theorem Rk.trans {key : Int → Int} {x y z : Int} (h : Rk key x y) (k : Rk key y z) : Rk key x z := by unfold Rk at *; omega
theorem Rk.irrefl {key : Int → Int} {x : Int} (h : Rk key x x) : False := by unfold Rk at *; omega
theorem Rk.total {key : Int → Int} {x y : Int} (h : x ≠ y) : Rk key x y ∨ Rk key y x := by unfold Rk at *; omega
/-- where x is less than y the keys alone decide -/
theorem Rk.of_lt {key : Int → Int} {x y : Int} (h : x < y) : Rk key y x ↔ key y < key x := by unfold Rk; omega
theorem Rk.of_not {key : Int → Int} {x y : Int} (h : x < y) (k : ¬ key y < key x) : Rk key x y := by unfold Rk; omega

def Srt (key : Int → Int) (f : Nat → Int) (a b : Nat) : Prop := ∀ i j, a ≤ i → i < j → j < b → Rk key (f i) (f j)
def Frm (g f : Nat → Int) (a b : Nat) : Prop := (∀ i, a ≤ i → i < b → ∃ j, a ≤ j ∧ j < b ∧ g i = f j) ∧ ∀ i, (i < a ∨ b ≤ i) → g i = f i
def Crs (f : Nat → Int) (a m b : Nat) : Prop := ∀ i j, a ≤ i → i < m → m ≤ j → j < b → f i < f j

theorem Frm.refl (f : Nat → Int) (a b : Nat) : Frm f f a b := ⟨fun i h1 h2 => ⟨i, h1, h2, rfl⟩, fun _ _ => rfl⟩
theorem Frm.trans {f g h : Nat → Int} {a b : Nat} (h1 : Frm h g a b) (h2 : Frm g f a b) : Frm h f a b := by
  refine ⟨fun i hi1 hi2 => ?_, fun i hi => (h1.2 i hi).trans (h2.2 i hi)⟩
  obtain ⟨j, hj1, hj2, e⟩ := h1.1 i hi1 hi2
  obtain ⟨k, hk1, hk2, e2⟩ := h2.1 j hj1 hj2
  exact ⟨k, hk1, hk2, e.trans e2⟩
theorem Frm.widen {f g : Nat → Int} {a b a' b' : Nat} (h : Frm g f a b) (ha : a' ≤ a) (hb : b ≤ b') : Frm g f a' b' := by
  refine ⟨fun i h1 h2 => ?_, fun i hi => h.2 i (by omega)⟩
  by_cases hi : a ≤ i ∧ i < b
  · obtain ⟨j, hj1, hj2, e⟩ := h.1 i hi.1 hi.2
    exact ⟨j, by omega, by omega, e⟩
  · exact ⟨i, h1, h2, h.2 i (by omega)⟩

/-- the block from m to b put ahead of that from a to m -/
def rot (f : Nat → Int) (a m b : Nat) (x : Nat) : Int :=
  if a ≤ x ∧ x < b then (if x < a + (b - m) then f (x + (m - a)) else f (x - (b - m))) else f x
/-- the blocks of n from a on and from b on exchanged -/
def swp (f : Nat → Int) (a b n : Nat) (x : Nat) : Int :=
  if a ≤ x ∧ x < a + n then f (x - a + b) else if b ≤ x ∧ x < b + n then f (x - b + a) else f x
def upd (f : Nat → Int) (i : Nat) (v : Int) (x : Nat) : Int := if x = i then v else f x

theorem rot_at {f : Nat → Int} {a m b x : Nat} : rot f a m b x = if a ≤ x ∧ x < b then (if x < a + (b - m) then f (x + (m - a)) else f (x - (b - m))) else f x := rfl

theorem rot_left {f : Nat → Int} {a b : Nat} : rot f a a b = f := by
  funext x
  simp only [rot]
  repeat' split
  all_goals first | rfl | (exfalso; omega) | (congr 1; omega)

theorem rot_right {f : Nat → Int} {a b : Nat} : rot f a b b = f := by
  funext x
  simp only [rot]
  repeat' split
  all_goals first | rfl | (exfalso; omega) | (congr 1; omega)

theorem rot_more {f : Nat → Int} {m i j : Nat} (hm : i ≤ m) (hij : j < i) : rot (swp f (m - i) m j) (m - i + j) m (m + j) = rot f (m - i) m (m + j) := by
  obtain ⟨l, rfl⟩ : ∃ l, m = l + i := ⟨m - i, by omega⟩
  funext x
  simp only [rot, swp]
  repeat' split
  all_goals first | rfl | (exfalso; omega) | (congr 1; omega)

theorem rot_less {f : Nat → Int} {m i j : Nat} (hm : i ≤ m) (hij : i < j) : rot (swp f (m - i) (m + j - i) i) (m - i) m (m + (j - i)) = rot f (m - i) m (m + j) := by
  obtain ⟨l, rfl⟩ : ∃ l, m = l + i := ⟨m - i, by omega⟩
  funext x
  simp only [rot, swp]
  repeat' split
  all_goals first | rfl | (exfalso; omega) | (congr 1; omega)

theorem rot_same {f : Nat → Int} {m i : Nat} (hm : i ≤ m) : swp f (m - i) m i = rot f (m - i) m (m + i) := by
  obtain ⟨l, rfl⟩ : ∃ l, m = l + i := ⟨m - i, by omega⟩
  funext x
  simp only [rot, swp]
  repeat' split
  all_goals first | rfl | (exfalso; omega) | (congr 1; omega)

theorem swp_zero {f : Nat → Int} {a b : Nat} : swp f a b 0 = f := by
  funext x; unfold swp; rw [if_neg (by omega), if_neg (by omega)]
theorem swp_succ {f : Nat → Int} {a b n : Nat} (h : a + n < b) : upd (upd (swp f a b n) (a + n) (swp f a b n (b + n))) (b + n) (swp f a b n (a + n)) = swp f a b (n + 1) := by
  funext x
  simp only [upd, swp]
  repeat' split
  all_goals first | rfl | (exfalso; omega) | (congr 1; omega)

/-- one more exchange moves the first one on by one -/
theorem rot_step {f : Nat → Int} {a k : Nat} (h : a ≤ k) : upd (upd (rot f a (a + 1) (k + 1)) k (rot f a (a + 1) (k + 1) (k + 1))) (k + 1) (rot f a (a + 1) (k + 1) k) = rot f a (a + 1) (k + 2) := by
  funext x
  simp only [upd, rot]
  repeat' split
  all_goals first | rfl | (exfalso; omega) | (congr 1; omega)

/-- one more exchange moves the last one ahead by one -/
theorem rot_back {f : Nat → Int} {m k : Nat} (h : k ≤ m) (h0 : 0 < k) : upd (upd (rot f k m (m + 1)) k (rot f k m (m + 1) (k - 1))) (k - 1) (rot f k m (m + 1) k) = rot f (k - 1) m (m + 1) := by
  funext x
  simp only [upd, rot]
  repeat' split
  all_goals first | rfl | (exfalso; omega) | (congr 1; omega)

theorem rot_frm {f : Nat → Int} {a m b : Nat} (h1 : a ≤ m) (h2 : m ≤ b) : Frm (rot f a m b) f a b := by
  refine ⟨fun i hi1 hi2 => ?_, fun i hi => by unfold rot; rw [if_neg (by omega)]⟩
  unfold rot
  rw [if_pos ⟨hi1, hi2⟩]
  by_cases h : i < a + (b - m)
  · rw [if_pos h]; exact ⟨_, by omega, by omega, rfl⟩
  · rw [if_neg h]; exact ⟨_, by omega, by omega, rfl⟩

/-- one element put in its place among sorted ones behind it -/
theorem place_first {key : Int → Int} {f : Nat → Int} {a i b : Nat} (ha : a + 1 ≤ i) (hi : i ≤ b) (hs : Srt key f (a + 1) b)
    (h1 : ∀ t, a + 1 ≤ t → t < i → Rk key (f t) (f a)) (h2 : ∀ t, i ≤ t → t < b → Rk key (f a) (f t)) : Srt key (rot f a (a + 1) i) a b := by
  intro x y hx hxy hy
  simp only [rot]
  by_cases x1 : x < i
  · rw [if_pos ⟨hx, x1⟩]
    by_cases y1 : y < i
    · rw [if_pos (⟨by omega, y1⟩ : a ≤ y ∧ y < i), if_pos (by omega)]
      by_cases y2 : y < a + (i - (a + 1))
      · rw [if_pos y2]; exact hs _ _ (by omega) (by omega) (by omega)
      · rw [if_neg y2]
        have : y - (i - (a + 1)) = a := by omega
        rw [this]; exact h1 _ (by omega) (by omega)
    · rw [if_neg (by omega : ¬ (a ≤ y ∧ y < i))]
      by_cases x2 : x < a + (i - (a + 1))
      · rw [if_pos x2]; exact hs _ _ (by omega) (by omega) (by omega)
      · rw [if_neg x2]
        have : x - (i - (a + 1)) = a := by omega
        rw [this]; exact h2 _ (by omega) (by omega)
  · rw [if_neg (by omega), if_neg (by omega)]; exact hs _ _ (by omega) (by omega) (by omega)

theorem place_last {key : Int → Int} {f : Nat → Int} {a i m : Nat} (ha : a ≤ i) (hi : i ≤ m) (hs : Srt key f a m)
    (h1 : ∀ t, a ≤ t → t < i → Rk key (f t) (f m)) (h2 : ∀ t, i ≤ t → t < m → Rk key (f m) (f t)) : Srt key (rot f i m (m + 1)) a (m + 1) := by
  intro x y hx hxy hy
  simp only [rot]
  by_cases x1 : x < i
  · rw [if_neg (by omega : ¬ (i ≤ x ∧ x < m + 1))]
    by_cases y1 : i ≤ y
    · rw [if_pos (⟨y1, by omega⟩ : i ≤ y ∧ y < m + 1)]
      by_cases y2 : y < i + (m + 1 - m)
      · rw [if_pos y2]
        have : y + (m - i) = m := by omega
        rw [this]; exact h1 _ (by omega) (by omega)
      · rw [if_neg y2]; exact hs _ _ (by omega) (by omega) (by omega)
    · rw [if_neg (by omega)]; exact hs _ _ (by omega) (by omega) (by omega)
  · rw [if_pos (by omega : i ≤ x ∧ x < m + 1), if_pos (by omega : i ≤ y ∧ y < m + 1), if_neg (by omega : ¬ y < i + (m + 1 - m))]
    by_cases x2 : x < i + (m + 1 - m)
    · rw [if_pos x2]
      have : x + (m - i) = m := by omega
      rw [this]; exact h2 _ (by omega) (by omega)
    · rw [if_neg x2]; exact hs _ _ (by omega) (by omega) (by omega)

/-- what the search for the start of the turned part knows at its end -/
structure Cut (key : Int → Int) (f : Nat → Int) (a m b mid s : Nat) : Prop where
  lo : (mid < m → mid + m - b ≤ s) ∧ (m ≤ mid → a ≤ s)
  hi : (mid < m → s ≤ mid) ∧ (m ≤ mid → s ≤ m)
  low : ∀ c, (mid < m → mid + m - b ≤ c) → (m ≤ mid → a ≤ c) → c < s → Rk key (f c) (f (mid + m - 1 - c))
  high : ∀ c, s ≤ c → (mid < m → c < mid) → (m ≤ mid → c < m) → Rk key (f (mid + m - 1 - c)) (f c)

theorem le_of_srt {key : Int → Int} {f : Nat → Int} {a b : Nat} (h : Srt key f a b) {i j : Nat} (h1 : a ≤ i) (h2 : i ≤ j) (h3 : j < b) {z : Int} (hz : Rk key (f j) z) : Rk key (f i) z := by
  rcases Nat.lt_or_ge i j with hl | hg
  · exact (h i j h1 hl h3).trans hz
  · have : i = j := by omega
    rw [this]; exact hz
theorem ge_of_srt {key : Int → Int} {f : Nat → Int} {a b : Nat} (h : Srt key f a b) {i j : Nat} (h1 : a ≤ i) (h2 : i ≤ j) (h3 : j < b) {z : Int} (hz : Rk key z (f i)) : Rk key z (f j) := by
  rcases Nat.lt_or_ge i j with hl | hg
  · exact hz.trans (h i j h1 hl h3)
  · have : i = j := by omega
    rw [← this]; exact hz

/-- behind the turn the first half comes ahead of the second one; each half has two sorted parts, the first of lesser numbers -/
structure Turned (key : Int → Int) (g : Nat → Int) (a s mid e b : Nat) : Prop where
  s1 : Srt key g a s
  s2 : Srt key g s mid
  s3 : Srt key g mid e
  s4 : Srt key g e b
  c1 : Crs g a s mid
  c2 : Crs g mid e b
  h : ∀ i j, a ≤ i → i < mid → mid ≤ j → j < b → Rk key (g i) (g j)

theorem turned {key : Int → Int} {f : Nat → Int} {a m b mid s : Nat} (h1 : a < m) (h2 : m < b) (hmid : mid = (a + b) / 2) (hs1 : Srt key f a m) (hs2 : Srt key f m b) (hc : Crs f a m b) (k : Cut key f a m b mid s) :
    a ≤ s ∧ s ≤ mid ∧ s ≤ m ∧ m ≤ mid + m - s ∧ mid ≤ mid + m - s ∧ mid + m - s ≤ b ∧ Turned key (rot f s m (mid + m - s)) a s mid (mid + m - s) b := by
  obtain ⟨⟨lo1, lo2⟩, ⟨hi1, hi2⟩, low, high⟩ := k
  have b1 : a ≤ s := by omega
  have b2 : s ≤ mid := by omega
  have b3 : s ≤ m := by omega
  have b4 : mid + m - s ≤ b := by omega
  have e1 : ∀ x, x < s → rot f s m (mid + m - s) x = f x := fun x hx => by unfold rot; rw [if_neg (by omega)]
  have e2 : ∀ x, s ≤ x → x < mid → rot f s m (mid + m - s) x = f (x + (m - s)) := fun x h1 h2 => by unfold rot; rw [if_pos (by omega), if_pos (by omega)]
  have e3 : ∀ x, mid ≤ x → x < mid + m - s → rot f s m (mid + m - s) x = f (x - (mid - s)) := fun x h1 h2 => by unfold rot; rw [if_pos (by omega), if_neg (by omega)]; congr 1; omega
  have e4 : ∀ x, mid + m - s ≤ x → rot f s m (mid + m - s) x = f x := fun x hx => by unfold rot; rw [if_neg (by omega)]
  refine ⟨b1, b2, b3, by omega, by omega, b4, ⟨?_, ?_, ?_, ?_, ?_, ?_, ?_⟩⟩
  · intro i j hi hij hj; rw [e1 i (by omega), e1 j hj]; exact hs1 _ _ hi hij (by omega)
  · intro i j hi hij hj; rw [e2 i hi (by omega), e2 j (by omega) hj]; exact hs2 _ _ (by omega) (by omega) (by omega)
  · intro i j hi hij hj; rw [e3 i hi (by omega), e3 j (by omega) hj]; exact hs1 _ _ (by omega) (by omega) (by omega)
  · intro i j hi hij hj; rw [e4 i hi, e4 j (by omega)]; exact hs2 _ _ (by omega) hij hj
  · intro i j hi hi2 hj hj2; rw [e1 i hi2, e2 j hj hj2]; exact hc _ _ hi (by omega) (by omega) (by omega)
  · intro i j hi hi2 hj hj2; rw [e3 i hi hi2, e4 j hj]; exact hc _ _ (by omega) (by omega) (by omega) hj2
  · intro i j hi hi2 hj hj2
    by_cases x1 : i < s
    · rw [e1 i x1]
      by_cases y1 : j < mid + m - s
      · rw [e3 j hj y1]; exact hs1 _ _ hi (by omega) (by omega)
      · rw [e4 j (by omega)]
        -- by the last one ahead of the cut
        have hl := low (s - 1) (by omega) (by omega) (by omega)
        have e : mid + m - 1 - (s - 1) = mid + m - s := by omega
        rw [e] at hl
        exact le_of_srt hs1 hi (by omega) (by omega) (ge_of_srt hs2 (by omega) (by omega) hj2 hl)
    · rw [e2 i (by omega) hi2]
      by_cases y1 : j < mid + m - s
      · rw [e3 j hj y1]
        have hh := high s (Nat.le_refl _) (by omega) (by omega)
        exact le_of_srt hs2 (by omega) (by omega) (by omega) (ge_of_srt hs1 b1 (by omega) (by omega) hh)
      · rw [e4 j (by omega)]; exact hs2 _ _ (by omega) (by omega) hj2

/-- both halves sorted: the whole is -/
theorem halves {key : Int → Int} {g h : Nat → Int} {a mid b : Nat} (hx : ∀ i j, a ≤ i → i < mid → mid ≤ j → j < b → Rk key (g i) (g j))
    (f1 : ∀ i, a ≤ i → i < mid → ∃ j, a ≤ j ∧ j < mid ∧ h i = g j) (f2 : ∀ i, mid ≤ i → i < b → ∃ j, mid ≤ j ∧ j < b ∧ h i = g j)
    (s1 : Srt key h a mid) (s2 : Srt key h mid b) : Srt key h a b := by
  intro i j hi hij hj
  by_cases x : j < mid
  · exact s1 _ _ hi hij x
  · by_cases y : mid ≤ i
    · exact s2 _ _ y hij hj
    · obtain ⟨i', h1, h2, e1⟩ := f1 i hi (by omega)
      obtain ⟨j', h3, h4, e2⟩ := f2 j (by omega) hj
      rw [e1, e2]; exact hx _ _ h1 h2 h3 h4

end Go.Proofs.Ytcphdmhcpjfedaa
