/- Merging in place: both sides longer than one. -/
import Derived.Test.YtcphdmhcpjfedaaSd
namespace Go.Proofs.Ytcphdmhcpjfedaa
open Go.RowKit

theorem Srt.off {ky : Int → Int} {f g : Nat → Int} {a b c d : Nat} (h : Srt ky f c d) (hf : Frm g f a b) (ho : b ≤ c ∨ d ≤ a) : Srt ky g c d := by
  intro i j h1 h2 h3
  rw [hf.2 i (by omega), hf.2 j (by omega)]; exact h i j h1 h2 h3
theorem Crs.off {f g : Nat → Int} {a b c m d : Nat} (h : Crs f c m d) (hm : c ≤ m) (_ : m ≤ d) (hf : Frm g f a b) (ho : b ≤ c ∨ d ≤ a) : Crs g c m d := by
  intro i j h1 h2 h3 h4
  rw [hf.2 i (by omega), hf.2 j (by omega)]; exact h i j h1 h2 h3 h4

theorem grown_end {a b : World} {g : Nat} (_ : a.grownBy b (some g)) : b.grownBy b (some g) := grown_refl _ _
theorem Arr.as {w : World} {g n cap : Nat} {f f' : Nat → Int} (h : Arr w g n cap f) (e : f = f') : Arr w g n cap f' := e ▸ h

theorem sym_close {ky : Int → Int} {f : Nat → Int} {a m b s mid e : Nat} (T : Turned ky (rot f s m e) a s mid e b) (h1 : a ≤ s) (h2 : s ≤ m) (h3 : m ≤ e) (h4 : e ≤ b) (h5 : s ≤ mid) (h6 : mid ≤ e) (f3 f5 : Nat → Int)
    (hL : (f3 = rot f s m e ∧ (s = a ∨ s = mid)) ∨ (Srt ky f3 a mid ∧ Frm f3 (rot f s m e) a mid)) (hR : (f5 = f3 ∧ (e = mid ∨ e = b)) ∨ (Srt ky f5 mid b ∧ Frm f5 f3 mid b)) : Srt ky f5 a b ∧ Frm f5 f a b := by
  have L : Srt ky f3 a mid ∧ Frm f3 (rot f s m e) a mid := by
    rcases hL with ⟨rfl, h⟩ | h
    · refine ⟨?_, Frm.refl _ _ _⟩
      rcases h with h | h
      · subst h; exact T.s2
      · subst h; exact T.s1
    · exact h
  have R : Srt ky f5 mid b ∧ Frm f5 f3 mid b := by
    rcases hR with ⟨rfl, h⟩ | h
    · refine ⟨?_, Frm.refl _ _ _⟩
      rcases h with h | h
      · subst h; exact T.s4.off L.2 (.inl (Nat.le_refl _))
      · subst h; exact T.s3.off L.2 (.inl (Nat.le_refl _))
    · exact h
  refine ⟨halves (g := rot f s m e) (mid := mid) T.h ?_ ?_ ?_ R.1, ?_⟩
  · intro i hi1 hi2
    rw [R.2.2 i (by omega)]; exact L.2.1 i hi1 hi2
  · intro i hi1 hi2
    obtain ⟨j, hj1, hj2, e⟩ := R.2.1 i hi1 hi2
    exact ⟨j, hj1, hj2, by rw [e, L.2.2 j (by omega)]⟩
  · exact L.1.off R.2 (.inr (Nat.le_refl _))
  · exact (R.2.widen (by omega) (Nat.le_refl _)).trans ((L.2.widen (Nat.le_refl _) (by omega)).trans ((rot_frm h2 h3).widen h1 h4))

/-- merging parts of d in all, or fewer, sorts -/
def SymOk (d : Nat) : Prop := ∀ (A M B : Int) (a m b : Nat), A = a → M = m → B = b → ∀ (g n cap : Nat) (f : Nat → Int) (p q : Int) (bp bq : Nat) (w : World), b - a ≤ d → Arr w g n cap f → PQ w bp bq p q → bp ≠ g → bq ≠ g → Ok p q →
    Rng n f → a < m → m < b → b ≤ n → n ≤ 1000000 → Srt (key p q) f a m → Srt (key p q) f m b → Crs f a m b →
    Calls Try.prog 239 #[.slice (some ⟨g, 0, none⟩) n cap, .int .i64 A, .int .i64 M, .int .i64 B, cmpV bp bq] w (SortsTo w g n cap (key p q) f a b)

set_option maxHeartbeats 3000000 in
set_option maxRecDepth 100000 in
theorem sym_both (d : Nat) (ih : Hid (SymOk d)) {A M B : Int} (a m b : Nat) (hA : A = a) (hM : M = m) (hB : B = b) (g n cap : Nat) (f : Nat → Int) (p q : Int) (bp bq : Nat) (w : World) (hd : b - a ≤ d + 1) (harr : Arr w g n cap f) (hpq : PQ w bp bq p q) (n1 : bp ≠ g) (n2 : bq ≠ g) (hok : Hid (Ok p q))
    (hrng : Hid (Rng n f)) (h1 : a + 1 < m) (h1' : m + 1 < b) (h2 : b ≤ n) (h3 : n ≤ 1000000) (hs : Hid (Srt (key p q) f a m)) (hs' : Hid (Srt (key p q) f m b)) (hc : Hid (Crs f a m b)) :
    Calls Try.prog 239 #[.slice (some ⟨g, 0, none⟩) n cap, .int .i64 A, .int .i64 M, .int .i64 B, cmpV bp bq] w (SortsTo w g n cap (key p q) f a b) := by
  subst hA
  subst hM
  subst hB
  unfold cmpV
  have t0 : ((m : Int) - a == 1) = false := by simp; omega
  have t1 : ((b : Int) - m == 1) = false := by simp; omega
  obtain ⟨mid, hmA, hmB, hmN, hmid⟩ : ∃ mid : Nat, a < mid ∧ mid < b ∧ Hid (mid = (a + b) / 2) ∧ ((a : Int) + b) / 2 = mid := ⟨(a + b) / 2, by omega, by omega, rfl, by omega⟩
  by_cases hgt : (mid : Int) < m
  · obtain ⟨s0, hs0⟩ : ∃ s0 : Nat, (mid : Int) + m - b = s0 := ⟨mid + m - b, by have := hmN.out; omega⟩
    have z1 : a ≤ s0 := by have := hmN.out; omega
    have z2 : s0 ≤ mid := by omega
    have Hs0 := Lib.hid (show s0 = mid + m - b by omega)
    have mb : mid + m ≤ a + b + (m - a) := by have := hmN.out; omega
    go_enter Try.func239, Try.ntmps239
    go_wp2_with fail
    go_loopg [20, 21] (b - a) (fun k iv jv wr => ∃ (i j : Nat), j - i ≤ k ∧ i ≤ j ∧ s0 ≤ i ∧ j ≤ mid ∧ iv = .int .i64 i ∧ jv = .int .i64 j ∧ Arr wr g n cap f ∧ w.grownBy wr (some g) ∧ (∀ t, s0 ≤ t → t < i → Rk (key p q) (f t) (f (mid + m - 1 - t))) ∧ (∀ t, j ≤ t → t < mid → Rk (key p q) (f (mid + m - 1 - t)) (f t)))
    case atStart =>
      exact ⟨s0, mid, by omega, by omega, by omega, by omega, rfl, rfl, harr, grown_refl w g, fun t h1 h2 => by omega, fun t h1 h2 => by omega⟩
    case round =>
      obtain ⟨i, j, hk, hij, hai, hjb, rfl, rfl, ha2, hg2, hlo, hhi⟩ := hrel
      have Hlo := Lib.hid hlo
      have Hhi := Lib.hid hhi
      clear hlo hhi
      have hpq2 := hpq.keep hg2 n1 n2
      by_cases hlt : i < j
      · obtain ⟨h, hih, hhj, hh⟩ : ∃ h : Nat, i ≤ h ∧ h < j ∧ ((i : Int) + j) / 2 = h := ⟨(i + j) / 2, by omega, by omega, by omega⟩
        obtain ⟨u, hu1, hu2, Hu, hu⟩ : ∃ u : Nat, m ≤ u ∧ u < b ∧ Hid (u = mid + m - 1 - h) ∧ ((mid : Int) + m - 1 - h) = u := ⟨mid + m - 1 - h, by omega, by have := hmN.out; omega, rfl, by omega⟩
        have c1 := ha2.cell (i := h) (by omega)
        have c2 := ha2.cell (i := u) (by omega)
        have y1 := hrng.out h (by omega)
        have y2 := hrng.out u (by omega)
        by_cases hk2 : key p q (f u) < key p q (f h)
        · have Hk := Lib.hid hk2
          clear hk2
          go_wp2_with fail
          go_big_quiet ((go_at_call 178; exact Calls.quiet_of (cmp_lt (hpq2) hok.out y2 y1 Hk.out)))
          go_wp2_with fail
          go_roundg (h - i)
          case measure => omega
          case rel =>
            refine ⟨i, h, by omega, by omega, by omega, by omega, rfl, rfl, ha2.drewN _, grown_drewN hg2 _, Hlo.out, ?_⟩
            intro t ht1 ht2
            refine ge_of_srt hs.out (by omega) ht1 (by omega) ?_
            refine le_of_srt hs'.out (by omega) (show mid + m - 1 - t ≤ u by have := Hu.out; omega) (by omega) (.inl Hk.out)
        · obtain ⟨c, hcc⟩ : ∃ c, Hid (cmpI (key p q (f u)) (key p q (f h)) = c) := ⟨_, rfl⟩
          have hc0 : 0 ≤ c := by rw [← hcc.out]; exact cmpI_ge hk2
          have hc1 : decide (c < 0) = false := by simpa using hc0
          have Hk := Lib.hid hk2
          clear hk2
          go_wp2_with fail
          go_big_quiet ((go_at_call 178; exact Calls.quiet_of (cmp_ge (hpq2) hok.out y2 y1 hcc)))
          go_wp2_with fail
          go_roundg (j - (h + 1))
          case measure => omega
          case rel =>
            refine ⟨h + 1, j, by omega, by omega, by omega, by omega, by go_num, rfl, ha2.drewN _, grown_drewN hg2 _, ?_, Hhi.out⟩
            intro t ht1 ht2
            have hrk : Rk (key p q) (f h) (f u) := Rk.of_not (hc.out h u (by omega) (by omega) hu1 hu2) (Int.not_lt.2 Hk.out)
            refine le_of_srt hs.out (by omega) (show t ≤ h by omega) (by omega) ?_
            refine ge_of_srt hs'.out (by omega) (show u ≤ mid + m - 1 - t by have := Hu.out; omega) (by have := hmN.out; have := Hs0.out; omega) hrk
      · have hje : j = i := by omega
        subst hje
        obtain ⟨e, He, he⟩ : ∃ e : Nat, Hid (e = mid + m - j) ∧ ((mid : Int) + m - j) = e := ⟨mid + m - j, rfl, by omega⟩
        have hcut : Cut (key p q) f a m b mid j := by
          refine ⟨⟨fun _ => ?_, fun _ => ?_⟩, ⟨fun _ => ?_, fun _ => ?_⟩, fun c x1 x2 x3 => Hlo.out c ?_ x3, fun c x1 x2 x3 => Hhi.out c x1 ?_⟩
          all_goals first | omega | (have := Hs0.out; omega) | exact (x2 (by omega)) | exact (x3 (by omega)) | (have := x1 (by omega); have := Hs0.out; omega)
        obtain ⟨k1, k2, k3, k4, k5, k6, T⟩ := turned (by omega) (by omega) hmN.out hs.out hs'.out hc.out hcut
        rw [← He.out] at k4 k5 k6 T
        have HT := Lib.hid T
        clear T hcut
        have he1 : e + j = mid + m := by have := He.out; omega
        have He1 := Lib.hid he1
        have b1 : (j < m ↔ mid < e) := by omega
        have b2 : (j < mid ↔ m < e) := by omega
        have hrot : Frm (rot f j m e) f a b := (rot_frm k3 k4).widen k1 k6
        have hr3 : Hid (Rng n (rot f j m e)) := hrng.out.frm h2 hrot
        have Hrot := Lib.hid hrot
        clear hrot he1
        by_cases y1 : j < m <;> by_cases y2 : j < mid <;> by_cases y3 : a < j <;> by_cases y4 : e < b
        all_goals
          have q1 := Lib.hid b1
          have q2 := Lib.hid b2
          clear b1 b2
          first | (have ra : Hid (j < m ∧ m < e) := ⟨y1, q2.out.1 y2⟩) | (have ha3 := ha2.as (show f = rot f j m e by (first | (rw [show j = m by omega, rot_left]) | (rw [show e = m by have := He1.out; omega, rot_right]))); have hg3 := grown_end hg2)
          first | (have d1 : decide ((j : Int) < m) = true := by simp; omega) | (have d1 : decide ((j : Int) < m) = false := by simp; omega)
          first | (have d2 : decide ((m : Int) < e) = true := by simp; have := He1.out; omega) | (have d2 : decide ((m : Int) < e) = false := by simp; have := He1.out; omega)
          first | (have d3 : decide ((a : Int) < j) = true := by simp; omega) | (have d3 : decide ((a : Int) < j) = false := by simp; omega)
          first | (have d4 : decide ((j : Int) < mid) = true := by simp; omega) | (have d4 : decide ((j : Int) < mid) = false := by simp; omega)
          first | (have d5 : decide ((mid : Int) < e) = true := by simp; have := He1.out; omega) | (have d5 : decide ((mid : Int) < e) = false := by simp; have := He1.out; omega)
          first | (have d6 : decide ((e : Int) < b) = true := by simp; omega) | (have d6 : decide ((e : Int) < b) = false := by simp; omega)
          go_wp2_with (first
            | (go_at_call 249; refine (rotate_any j m e (by omega) (by omega) (by omega) g n cap f _ _ ha2 ra.out.1 ra.out.2 (by omega) h3).mono ?_; rintro er w2 ⟨rfl, ha3, hg3⟩)
            | (go_at_call 239; refine (ih.out _ _ _ a j mid (by omega) (by omega) (by omega) g n cap _ p q bp bq _ (by omega) ha3 (hpq2.keep hg3 n1 n2) n1 n2 hok.out hr3.out (by omega) (by omega) (by omega) h3 HT.out.s1 HT.out.s2 HT.out.c1).mono ?_; rintro er w3 ⟨f3, rfl, ha4, hg4, hs4, hf4⟩; have Hs4 := Lib.hid hs4; have Hf4 := Lib.hid hf4; clear hs4 hf4)
            | (go_at_call 239; refine (ih.out _ _ _ mid e b (by omega) (by omega) (by omega) g n cap _ p q bp bq _ (by omega) ha4 ((hpq2.keep hg3 n1 n2).keep hg4 n1 n2) n1 n2 hok.out (hr3.out.frm (by omega) Hf4.out) (by omega) (by omega) (by omega) h3 (HT.out.s3.off Hf4.out (.inl (Nat.le_refl _))) (HT.out.s4.off Hf4.out (.inl k5)) (HT.out.c2.off k5 k6 Hf4.out (.inl (Nat.le_refl _)))).mono ?_; rintro er w5 ⟨f5, rfl, ha6, hg6, hs6, hf6⟩)
            | (go_at_call 239; refine (ih.out _ _ _ mid e b (by omega) (by omega) (by omega) g n cap _ p q bp bq _ (by omega) ha3 (hpq2.keep hg3 n1 n2) n1 n2 hok.out hr3.out (by omega) (by omega) (by omega) h3 HT.out.s3 HT.out.s4 HT.out.c2).mono ?_; rintro er w5 ⟨f5, rfl, ha6, hg6, hs6, hf6⟩))
          all_goals
            go_end0
            have he1 := He1.out
            first
              | exact (⟨f5, rfl, ha6, grown_trans (grown_trans (grown_trans hg2 hg3) hg4) hg6, sym_close HT.out k1 k3 k4 k6 k2 k5 f3 f5 (.inr ⟨Hs4.out, Hf4.out⟩) (.inr ⟨hs6, hf6⟩)⟩ : SortsTo _ _ _ _ _ _ _ _ _ _)
              | exact (⟨f5, rfl, ha6, grown_trans (grown_trans hg2 hg3) hg6, sym_close HT.out k1 k3 k4 k6 k2 k5 _ f5 (.inl ⟨rfl, by omega⟩) (.inr ⟨hs6, hf6⟩)⟩ : SortsTo _ _ _ _ _ _ _ _ _ _)
              | exact (⟨f3, rfl, ha4, grown_trans (grown_trans hg2 hg3) hg4, sym_close HT.out k1 k3 k4 k6 k2 k5 f3 f3 (.inr ⟨Hs4.out, Hf4.out⟩) (.inl ⟨rfl, by omega⟩)⟩ : SortsTo _ _ _ _ _ _ _ _ _ _)
              | exact (⟨_, rfl, ha3, grown_trans hg2 hg3, sym_close HT.out k1 k3 k4 k6 k2 k5 _ _ (.inl ⟨rfl, by omega⟩) (.inl ⟨rfl, by omega⟩)⟩ : SortsTo _ _ _ _ _ _ _ _ _ _)
  · have hgt' : ¬ (mid : Int) < m := by omega
    have mb : mid + m ≤ a + b + (m - a) := by have := hmN.out; omega
    go_enter Try.func239, Try.ntmps239
    go_wp2_with fail
    go_loopg [20, 21] (b - a) (fun k iv jv wr => ∃ (i j : Nat), j - i ≤ k ∧ i ≤ j ∧ a ≤ i ∧ j ≤ m ∧ iv = .int .i64 i ∧ jv = .int .i64 j ∧ Arr wr g n cap f ∧ w.grownBy wr (some g) ∧ (∀ t, a ≤ t → t < i → Rk (key p q) (f t) (f (mid + m - 1 - t))) ∧ (∀ t, j ≤ t → t < m → Rk (key p q) (f (mid + m - 1 - t)) (f t)))
    case atStart =>
      exact ⟨a, m, by omega, by omega, by omega, by omega, rfl, rfl, harr, grown_refl w g, fun t h1 h2 => by omega, fun t h1 h2 => by omega⟩
    case round =>
      obtain ⟨i, j, hk, hij, hai, hjb, rfl, rfl, ha2, hg2, hlo, hhi⟩ := hrel
      have Hlo := Lib.hid hlo
      have Hhi := Lib.hid hhi
      clear hlo hhi
      have hpq2 := hpq.keep hg2 n1 n2
      by_cases hlt : i < j
      · obtain ⟨h, hih, hhj, hh⟩ : ∃ h : Nat, i ≤ h ∧ h < j ∧ ((i : Int) + j) / 2 = h := ⟨(i + j) / 2, by omega, by omega, by omega⟩
        obtain ⟨u, hu1, hu2, Hu, hu⟩ : ∃ u : Nat, m ≤ u ∧ u < b ∧ Hid (u = mid + m - 1 - h) ∧ ((mid : Int) + m - 1 - h) = u := ⟨mid + m - 1 - h, by omega, by have := hmN.out; omega, rfl, by omega⟩
        have c1 := ha2.cell (i := h) (by omega)
        have c2 := ha2.cell (i := u) (by omega)
        have y1 := hrng.out h (by omega)
        have y2 := hrng.out u (by omega)
        by_cases hk2 : key p q (f u) < key p q (f h)
        · have Hk := Lib.hid hk2
          clear hk2
          go_wp2_with fail
          go_big_quiet ((go_at_call 178; exact Calls.quiet_of (cmp_lt (hpq2) hok.out y2 y1 Hk.out)))
          go_wp2_with fail
          go_roundg (h - i)
          case measure => omega
          case rel =>
            refine ⟨i, h, by omega, by omega, by omega, by omega, rfl, rfl, ha2.drewN _, grown_drewN hg2 _, Hlo.out, ?_⟩
            intro t ht1 ht2
            refine ge_of_srt hs.out (by omega) ht1 (by omega) ?_
            refine le_of_srt hs'.out (by omega) (show mid + m - 1 - t ≤ u by have := Hu.out; omega) (by omega) (.inl Hk.out)
        · obtain ⟨c, hcc⟩ : ∃ c, Hid (cmpI (key p q (f u)) (key p q (f h)) = c) := ⟨_, rfl⟩
          have hc0 : 0 ≤ c := by rw [← hcc.out]; exact cmpI_ge hk2
          have hc1 : decide (c < 0) = false := by simpa using hc0
          have Hk := Lib.hid hk2
          clear hk2
          go_wp2_with fail
          go_big_quiet ((go_at_call 178; exact Calls.quiet_of (cmp_ge (hpq2) hok.out y2 y1 hcc)))
          go_wp2_with fail
          go_roundg (j - (h + 1))
          case measure => omega
          case rel =>
            refine ⟨h + 1, j, by omega, by omega, by omega, by omega, by go_num, rfl, ha2.drewN _, grown_drewN hg2 _, ?_, Hhi.out⟩
            intro t ht1 ht2
            have hrk : Rk (key p q) (f h) (f u) := Rk.of_not (hc.out h u (by omega) (by omega) hu1 hu2) (Int.not_lt.2 Hk.out)
            refine le_of_srt hs.out (by omega) (show t ≤ h by omega) (by omega) ?_
            refine ge_of_srt hs'.out (by omega) (show u ≤ mid + m - 1 - t by have := Hu.out; omega) (by have := hmN.out; omega) hrk
      · have hje : j = i := by omega
        subst hje
        obtain ⟨e, He, he⟩ : ∃ e : Nat, Hid (e = mid + m - j) ∧ ((mid : Int) + m - j) = e := ⟨mid + m - j, rfl, by omega⟩
        have hcut : Cut (key p q) f a m b mid j := by
          refine ⟨⟨fun _ => ?_, fun _ => ?_⟩, ⟨fun _ => ?_, fun _ => ?_⟩, fun c x1 x2 x3 => Hlo.out c ?_ x3, fun c x1 x2 x3 => Hhi.out c x1 ?_⟩
          all_goals first | omega | (omega) | exact (x2 (by omega)) | exact (x3 (by omega)) | (have := x1 (by omega); omega)
        obtain ⟨k1, k2, k3, k4, k5, k6, T⟩ := turned (by omega) (by omega) hmN.out hs.out hs'.out hc.out hcut
        rw [← He.out] at k4 k5 k6 T
        have HT := Lib.hid T
        clear T hcut
        have he1 : e + j = mid + m := by have := He.out; omega
        have He1 := Lib.hid he1
        have b1 : (j < m ↔ mid < e) := by omega
        have b2 : (j < mid ↔ m < e) := by omega
        have hrot : Frm (rot f j m e) f a b := (rot_frm k3 k4).widen k1 k6
        have hr3 : Hid (Rng n (rot f j m e)) := hrng.out.frm h2 hrot
        have Hrot := Lib.hid hrot
        clear hrot he1
        by_cases y1 : j < m <;> by_cases y2 : j < mid <;> by_cases y3 : a < j <;> by_cases y4 : e < b
        all_goals
          have q1 := Lib.hid b1
          have q2 := Lib.hid b2
          clear b1 b2
          first | (have ra : Hid (j < m ∧ m < e) := ⟨y1, q2.out.1 y2⟩) | (have ha3 := ha2.as (show f = rot f j m e by (first | (rw [show j = m by omega, rot_left]) | (rw [show e = m by have := He1.out; omega, rot_right]))); have hg3 := grown_end hg2)
          first | (have d1 : decide ((j : Int) < m) = true := by simp; omega) | (have d1 : decide ((j : Int) < m) = false := by simp; omega)
          first | (have d2 : decide ((m : Int) < e) = true := by simp; have := He1.out; omega) | (have d2 : decide ((m : Int) < e) = false := by simp; have := He1.out; omega)
          first | (have d3 : decide ((a : Int) < j) = true := by simp; omega) | (have d3 : decide ((a : Int) < j) = false := by simp; omega)
          first | (have d4 : decide ((j : Int) < mid) = true := by simp; omega) | (have d4 : decide ((j : Int) < mid) = false := by simp; omega)
          first | (have d5 : decide ((mid : Int) < e) = true := by simp; have := He1.out; omega) | (have d5 : decide ((mid : Int) < e) = false := by simp; have := He1.out; omega)
          first | (have d6 : decide ((e : Int) < b) = true := by simp; omega) | (have d6 : decide ((e : Int) < b) = false := by simp; omega)
          go_wp2_with (first
            | (go_at_call 249; refine (rotate_any j m e (by omega) (by omega) (by omega) g n cap f _ _ ha2 ra.out.1 ra.out.2 (by omega) h3).mono ?_; rintro er w2 ⟨rfl, ha3, hg3⟩)
            | (go_at_call 239; refine (ih.out _ _ _ a j mid (by omega) (by omega) (by omega) g n cap _ p q bp bq _ (by omega) ha3 (hpq2.keep hg3 n1 n2) n1 n2 hok.out hr3.out (by omega) (by omega) (by omega) h3 HT.out.s1 HT.out.s2 HT.out.c1).mono ?_; rintro er w3 ⟨f3, rfl, ha4, hg4, hs4, hf4⟩; have Hs4 := Lib.hid hs4; have Hf4 := Lib.hid hf4; clear hs4 hf4)
            | (go_at_call 239; refine (ih.out _ _ _ mid e b (by omega) (by omega) (by omega) g n cap _ p q bp bq _ (by omega) ha4 ((hpq2.keep hg3 n1 n2).keep hg4 n1 n2) n1 n2 hok.out (hr3.out.frm (by omega) Hf4.out) (by omega) (by omega) (by omega) h3 (HT.out.s3.off Hf4.out (.inl (Nat.le_refl _))) (HT.out.s4.off Hf4.out (.inl k5)) (HT.out.c2.off k5 k6 Hf4.out (.inl (Nat.le_refl _)))).mono ?_; rintro er w5 ⟨f5, rfl, ha6, hg6, hs6, hf6⟩)
            | (go_at_call 239; refine (ih.out _ _ _ mid e b (by omega) (by omega) (by omega) g n cap _ p q bp bq _ (by omega) ha3 (hpq2.keep hg3 n1 n2) n1 n2 hok.out hr3.out (by omega) (by omega) (by omega) h3 HT.out.s3 HT.out.s4 HT.out.c2).mono ?_; rintro er w5 ⟨f5, rfl, ha6, hg6, hs6, hf6⟩))
          all_goals
            go_end0
            have he1 := He1.out
            first
              | exact (⟨f5, rfl, ha6, grown_trans (grown_trans (grown_trans hg2 hg3) hg4) hg6, sym_close HT.out k1 k3 k4 k6 k2 k5 f3 f5 (.inr ⟨Hs4.out, Hf4.out⟩) (.inr ⟨hs6, hf6⟩)⟩ : SortsTo _ _ _ _ _ _ _ _ _ _)
              | exact (⟨f5, rfl, ha6, grown_trans (grown_trans hg2 hg3) hg6, sym_close HT.out k1 k3 k4 k6 k2 k5 _ f5 (.inl ⟨rfl, by omega⟩) (.inr ⟨hs6, hf6⟩)⟩ : SortsTo _ _ _ _ _ _ _ _ _ _)
              | exact (⟨f3, rfl, ha4, grown_trans (grown_trans hg2 hg3) hg4, sym_close HT.out k1 k3 k4 k6 k2 k5 f3 f3 (.inr ⟨Hs4.out, Hf4.out⟩) (.inl ⟨rfl, by omega⟩)⟩ : SortsTo _ _ _ _ _ _ _ _ _ _)
              | exact (⟨_, rfl, ha3, grown_trans hg2 hg3, sym_close HT.out k1 k3 k4 k6 k2 k5 _ _ (.inl ⟨rfl, by omega⟩) (.inl ⟨rfl, by omega⟩)⟩ : SortsTo _ _ _ _ _ _ _ _ _ _)

theorem sym_any : ∀ d, SymOk d := by
  intro d
  induction d with
  | zero => intro A M B a m b hA hM hB g n cap f p q bp bq w hd harr hpq n1 n2 hok hr h1 h2; omega
  | succ d ih =>
    intro A M B a m b hA hM hB g n cap f p q bp bq w hd harr hpq n1 n2 hok hr h1 h2 h3 h4 hs hs' hc
    by_cases c1 : m = a + 1
    · subst c1
      exact sym_first a b hA (by omega) hB g n cap f p q bp bq w harr hpq n1 n2 hok hr h2 h3 h4 hs' hc
    · by_cases c2 : b = m + 1
      · subst c2
        exact sym_last a m hA hM (by omega) g n cap f p q bp bq w harr hpq n1 n2 hok hr (by omega) h3 h4 hs hc
      · exact sym_both d ih a m b hA hM hB g n cap f p q bp bq w hd harr hpq n1 n2 hok hr (by omega) (by omega) h3 h4 hs hs' hc

end Go.Proofs.Ytcphdmhcpjfedaa
