/- Sorting that keeps the order of equals: the walk. -/
import Derived.Test.YtcphdmhcpjfedaaSf
namespace Go.Proofs.Ytcphdmhcpjfedaa
open Go.RowKit

set_option maxHeartbeats 2000000 in
set_option maxRecDepth 100000 in
theorem stable_any {N : Int} (n : Nat) (hN : N = n) (g cap : Nat) (f : Nat → Int) (p q : Int) (bp bq : Nat) (w : World) (harr : Arr w g n cap f) (hpq : PQ w bp bq p q) (n1 : bp ≠ g) (n2 : bq ≠ g) (hok : Hid (Ok p q))
    (hrng : Hid (Rng n f)) (hinc : Hid (Inc f n)) (h3 : n ≤ 500) :
    Calls Try.prog 209 #[.slice (some ⟨g, 0, none⟩) n cap, .int .i64 N, cmpV bp bq] w (Sorted w g n cap (key p q) f) := by
  subst hN
  have hn6 : n ≤ 1000000 := by omega
  go_enter Try.func209, Try.ntmps209
  go_wp2_with fail
  go_loopg [7, 8] 100 (fun k av bv wr => ∃ (t a : Nat) (f2 : Nat → Int), t + k = 100 ∧ a = 20 * t ∧ a ≤ n ∧ av = .int .i64 a ∧ bv = .int .i64 (a + 20) ∧ Arr wr g n cap f2 ∧ w.grownBy wr (some g) ∧ Part (key p q) f f2 20 t ∧ Rng n f2)
  case atStart =>
    exact ⟨0, 0, f, by omega, by omega, by omega, rfl, rfl, harr, grown_refl w g, ⟨fun u hu => by omega, fun i _ => rfl⟩, hrng.out⟩
  case round =>
    obtain ⟨t, a, f2, hk, ha, han, rfl, rfl, ha2, hg2, hp2, hr2⟩ := hrel
    have Hk := Lib.hid hk
    have Ha := Lib.hid ha
    have Hp2 := Lib.hid hp2
    have Hr2 := Lib.hid hr2
    clear hk ha hp2 hr2
    have hpq2 := hpq.keep hg2 n1 n2
    by_cases hb : a + 20 ≤ n
    · go_wp2_with (first | (go_at_call 238; refine (insertion_any a (a + 20) (by omega) (by omega) g n cap f2 p q bp bq _ ha2 hpq2 n1 n2 hok Hr2 (by omega) hb hn6 (fun i j x1 x2 x3 => by rw [Hp2.out.hi i (by have := Ha.out; omega), Hp2.out.hi j (by have := Ha.out; omega)]; exact hinc.out i j x2 (by omega))).mono ?_; rintro e w2 ⟨f3, rfl, ha4, hg4, hs4, hf4⟩; have Hs4 := Lib.hid hs4; have Hf4 := Lib.hid hf4; clear hs4 hf4))
      go_roundg (gk - 1)
      case measure => have := Hk.out; have := Ha.out; omega
      case rel =>
        refine ⟨t + 1, a + 20, f3, by have := Hk.out; have := Ha.out; omega, by have := Ha.out; omega, hb, by go_num, by go_num, ha4, grown_trans hg2 hg4, ?_, Hr2.out.frm hb Hf4.out⟩
        have e := Ha.out
        subst e
        exact Hp2.out.next Hs4.out Hf4.out
    · go_wp2_with (first | (go_at_call 238; refine (insertion_any a n (by omega) (by omega) g n cap f2 p q bp bq _ ha2 hpq2 n1 n2 hok Hr2 han (Nat.le_refl _) hn6 (fun i j x1 x2 x3 => by rw [Hp2.out.hi i (by have := Ha.out; omega), Hp2.out.hi j (by have := Ha.out; omega)]; exact hinc.out i j x2 (by omega))).mono ?_; rintro e w2 ⟨f3, rfl, ha4, hg4, hs4, hf4⟩; have Hs4 := Lib.hid hs4; have Hf4 := Lib.hid hf4; clear hs4 hf4))
      have hblk : Blk (key p q) f f3 20 n := by
        have e := Ha.out
        subst e
        exact Hp2.out.fin han hb Hs4.out Hf4.out
      have Hblk := Lib.hid hblk
      have Hr3 := Lib.hid (Hr2.out.frm (Nat.le_refl _) Hf4.out)
      have hg3 := grown_trans hg2 hg4
      clear hblk ha2 hg2 hpq2 hg4
      go_loopg [6] 2000 (fun k sv wr2 => ∃ (s : Nat) (f4 : Nat → Int), k + s ≤ 2020 ∧ 2000 ≤ k + s ∧ 20 ≤ s ∧ s ≤ 1000 ∧ sv = .int .i64 s ∧ Arr wr2 g n cap f4 ∧ w.grownBy wr2 (some g) ∧ Blk (key p q) f f4 s n ∧ Rng n f4)
      case atStart => exact ⟨20, f3, by omega, by omega, by omega, by omega, rfl, ha4, hg3, Hblk.out, Hr3.out⟩
      case round =>
        obtain ⟨s, f4, hk1, hk2, hs1, hs2, rfl, ha5, hg5, hb5, hr5⟩ := hrel
        obtain ⟨ko, rfl⟩ : ∃ x, x = gk := ⟨_, rfl⟩
        have Hb5 := Lib.hid hb5
        have Hr5 := Lib.hid hr5
        clear hb5 hr5 ha4 hg3
        by_cases hl : s < n
        · go_wp2_with fail
          go_loopg [7, 8] n (fun k av bv wr3 => ∃ (t a : Nat) (f5 : Nat → Int), k + a = n ∧ a = s * (2 * t) ∧ av = .int .i64 a ∧ bv = .int .i64 (a + 2 * s) ∧ Arr wr3 g n cap f5 ∧ w.grownBy wr3 (some g) ∧ Half (key p q) f f5 s n t ∧ Rng n f5)
          case atStart => exact ⟨0, 0, f4, by omega, by simp, rfl, by go_num, ha5, hg5, Half.start Hb5.out, Hr5.out⟩
          case round =>
            obtain ⟨t, a, f5, hk3, ha3, rfl, rfl, ha6, hg6, hh6, hr6⟩ := hrel
            have han : a ≤ n := by omega
            have Hk3 := Lib.hid hk3
            have Ha3 := Lib.hid ha3
            have Hh6 := Lib.hid hh6
            have Hr6 := Lib.hid hr6
            clear hk3 ha3 hh6 hr6
            have hpq6 := hpq.keep hg6 n1 n2
            by_cases hb : a + 2 * s ≤ n
            · have hd : Hid (Don (key p q) f f5 a (a + s) ∧ Don (key p q) f f5 (a + s) (a + 2 * s)) := by
                have e := Ha3.out
                subst e
                exact Hh6.out.pair hb
              go_wp2_with (first | (go_at_call 239; refine ((sym_any (2 * s)) _ _ _ a (a + s) (a + 2 * s) (by omega) (by omega) (by omega) g n cap f5 p q bp bq _ (by omega) ha6 hpq6 n1 n2 hok.out Hr6.out (by omega) (by omega) hb hn6 hd.out.1.1 hd.out.2.1 (hd.out.1.crs hd.out.2 (fun i j x1 x2 x3 => hinc.out i j x2 (by omega)))).mono ?_; rintro e w2 ⟨f6, rfl, ha7, hg7, hs7, hf7⟩; have Hs7 := Lib.hid hs7; have Hf7 := Lib.hid hf7; clear hs7 hf7))
              go_roundg (gk - 2 * s)
              case measure => have := Hk3.out; omega
              case rel =>
                refine ⟨t + 1, a + 2 * s, f6, by have := Hk3.out; omega, ?_, by go_num, by go_num, ha7, grown_trans hg6 hg7, ?_, Hr6.out.frm hb Hf7.out⟩
                · rw [(dbl s t).2.2, Ha3.out]
                · have e := Ha3.out
                  subst e
                  exact Hh6.out.next hb Hs7.out Hf7.out
            · by_cases hm : a + s < n
              · have hd : Hid (Don (key p q) f f5 a (a + s) ∧ Don (key p q) f f5 (a + s) n) := by
                  have e := Ha3.out
                  subst e
                  exact Hh6.out.last hb hm
                go_wp2_with (first | (go_at_call 239; refine ((sym_any n) _ _ _ a (a + s) n (by omega) (by omega) (by omega) g n cap f5 p q bp bq _ (by omega) ha6 hpq6 n1 n2 hok.out Hr6.out (by omega) hm (Nat.le_refl _) hn6 hd.out.1.1 hd.out.2.1 (hd.out.1.crs hd.out.2 (fun i j x1 x2 x3 => hinc.out i j x2 x3))).mono ?_; rintro e w2 ⟨f6, rfl, ha7, hg7, hs7, hf7⟩; have Hs7 := Lib.hid hs7; have Hf7 := Lib.hid hf7; clear hs7 hf7))
                go_roundg (ko - s)
                case measure => omega
                case rel =>
                  refine ⟨2 * s, f6, by omega, by omega, by omega, by omega, by go_num, ha7, grown_trans hg6 hg7, ?_, Hr6.out.frm (Nat.le_refl _) Hf7.out⟩
                  have hmm := hd.out.1.merge hd.out.2 (by omega) (by omega) Hs7.out Hf7.out
                  have e := Ha3.out
                  subst e
                  exact Hh6.out.fin hb hmm Hf7.out han
              · go_wp2_with fail
                go_roundg (ko - s)
                case measure => omega
                case rel =>
                  refine ⟨2 * s, f5, by omega, by omega, by omega, by omega, by go_num, ha6, hg6, ?_, Hr6.out⟩
                  have e := Ha3.out
                  subst e
                  exact Hh6.out.fin0 hm (by omega) han
        · go_wp2_with fail
          go_end0
          have hD := Hb5.out 0 (by omega)
          rw [show s * 0 = 0 by omega, show min (0 + s) n = n by omega] at hD
          refine ⟨f4, rfl, ha5, hg5, hD.1, fun i hi => ?_⟩
          obtain ⟨j, _, h1, h2⟩ := hD.2 i (by omega) hi
          exact ⟨j, h1, h2⟩

theorem SortStable_any (n : Nat) (g cap : Nat) (f : Nat → Int) (p q : Int) (bp bq : Nat) (w : World) (harr : Arr w g n cap f) (hpq : PQ w bp bq p q) (n1 : bp ≠ g) (n2 : bq ≠ g) (hok : Hid (Ok p q))
    (hrng : Hid (Rng n f)) (hinc : Hid (Inc f n)) (h3 : n ≤ 500) :
    Calls Try.prog 177 #[.slice (some ⟨g, 0, none⟩) n cap, cmpV bp bq] w (Sorted w g n cap (key p q) f) := by
  go_enter Try.func177, Try.ntmps177
  go_wp2_with (first | (go_at_call 209; refine (stable_any n (by omega) g cap f p q bp bq _ harr hpq n1 n2 hok hrng hinc h3).mono ?_; rintro e w2 ⟨f2, rfl, ha2, hg2, hs2, hf2⟩))
  go_end0
  exact ⟨f2, rfl, ha2, hg2, hs2, hf2⟩

end Go.Proofs.Ytcphdmhcpjfedaa
