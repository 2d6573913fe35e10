/- The reference's OrderOfMultiples; lists of numbers compared, marked, held. -/
import Derived.Test.YtcphdmhcpjfedaaSj
namespace Go.Proofs.Ytcphdmhcpjfedaa
open Go.RowKit

set_option maxHeartbeats 400000 in
theorem specOrder_ok (p q n : Int) (h1 : Hid (plB p q = true)) (h2 : Hid (inB n 1 500 = true)) (w : World) :
    Calls Try.prog 13 #[.int .i64 p, .int .i64 q, .int .i64 n] w fun e w' => ∃ L, Good p q n.toNat L ∧ NewIntsCode w L e w' := by
  have hn : 1 ≤ n ∧ n ≤ 500 := by have := h2.out; simpa [inB] using this
  have hok := Lib.hid (plB_ok h1.out)
  have h1' : Hid (plS p q 2 = true) := (plS_two p q).trans h1.out
  obtain ⟨k, hk⟩ : ∃ k : Nat, n = k := ⟨n.toNat, by omega⟩
  have hk3 : k ≤ 500 := by omega
  have hkn : n.toNat = k := by omega
  rw [hkn]
  have Hk := Lib.hid hk
  clear hk hkn
  go_enter Try.func13, Try.ntmps13
  go_wp2_with (first | (go_at_call 104; refine (l10Ratio_is _ _ _ _ h1' _).mono ?_; rintro e w' ⟨rfl, rfl⟩) | (go_at_call 105; refine (l01In_is _ _ _ _ h2 _).mono ?_; rintro e w' ⟨rfl, rfl⟩) | (go_at_call 106; refine (l10Order_any p q k Hk.out hok hk3 _).mono ?_; rintro e w1 ⟨L, hg, g, cap, rfl, hl, hb⟩))
  go_ret2
  exact ⟨L, hg, g, cap, rfl, hl, hb⟩

theorem specOrder_bad (p q n : Int) (h : Hid (¬ (plB p q = true ∧ inB n 1 500 = true))) (w : World) :
    Calls Try.prog 13 #[.int .i64 p, .int .i64 q, .int .i64 n] w fun e w' => e = .returned (.tuple #[.slice none 0 0, .int .i64 2]) ∧ w = w' := by
  obtain ⟨b1, h1⟩ : ∃ x, Hid (plS p q 2 = x) := ⟨_, rfl⟩
  obtain ⟨b2, h2⟩ : ∃ x, Hid (inB n 1 500 = x) := ⟨_, rfl⟩
  cases b1 <;> cases b2
  case true.true => exact absurd ⟨(plS_two p q).symm.trans h1.out, h2.out⟩ h.out
  all_goals
    go_enter Try.func13, Try.ntmps13
    go_wp2_with (first | (go_at_call 104; refine (l10Ratio_is _ _ _ _ h1 _).mono ?_; rintro e w' ⟨rfl, rfl⟩) | (go_at_call 105; refine (l01In_is _ _ _ _ h2 _).mono ?_; rintro e w' ⟨rfl, rfl⟩))
    go_ret2
    exact ⟨rfl, rfl⟩

theorem eqInts_nil (w : World) : Calls Try.prog 15 #[.slice none 0 0, .slice none 0 0] w fun e w' => e = .returned (.bool true) ∧ w = w' := by
  go_enter Try.func15, Try.ntmps15
  go_wp2
  go_loopg [5] 0 (fun k iv wr => iv = .int .i64 0 ∧ wr = w)
  case atStart => exact ⟨rfl, rfl⟩
  case round =>
    obtain ⟨rfl, rfl⟩ := hrel
    go_wp2
    go_ret
    exact ⟨rfl, rfl⟩

theorem eqInts_any (n g1 c1 g2 c2 : Nat) (f : Nat → Int) (w : World) (a1 : Arr w g1 n c1 f) (a2 : Arr w g2 n c2 f) (hn : n ≤ 1000000) :
    Calls Try.prog 15 #[.slice (some ⟨g1, 0, none⟩) n c1, .slice (some ⟨g2, 0, none⟩) n c2] w fun e w' => e = .returned (.bool true) ∧ ∃ m, w' = w.drewN m := by
  go_enter Try.func15, Try.ntmps15
  go_wp2
  go_loopg [5] n (fun k iv wr => ∃ i : Nat, i + k = n ∧ iv = .int .i64 i ∧ Arr wr g1 n c1 f ∧ Arr wr g2 n c2 f ∧ ∃ m, wr = w.drewN m)
  case atStart => exact ⟨0, by omega, rfl, a1, a2, 0, rfl⟩
  case round =>
    obtain ⟨i, hik, rfl, b1, b2, hw⟩ := hrel
    have Hik := Lib.hid hik
    have Hw := Lib.hid hw
    have hin : i ≤ n := by omega
    clear hik hw a1 a2
    by_cases hlt : i < n
    · have e1 := b1.cell hlt
      have e2 := b2.cell hlt
      have e3 : (f i != f i) = false := by simp
      obtain ⟨v, hv⟩ : ∃ v, f i = v := ⟨_, rfl⟩
      rw [hv] at e1 e2 e3
      clear hv
      go_wp2_with fail
      go_big_quiet (fail)
      go_wp2_with fail
      go_roundg (gk - 1)
      case measure => have := Hik.out; omega
      case rel =>
        obtain ⟨m, hm⟩ := Hw.out
        exact ⟨i + 1, by have := Hik.out; omega, by go_num, b1.drewN _, b2.drewN _, m + nq, by rw [hm]; simp [World.drewN, Nat.add_assoc]⟩
    · have hi : i = n := by omega
      subst hi
      go_wp2_with fail
      go_ret
      exact ⟨rfl, Hw.out⟩

/-- marked: the numbers from m on -/
def mk (m : Int) (i : Nat) : Int := m + i
theorem mark_nil (m : Int) (w : World) : Calls Try.prog 16 #[.slice none 0 0, .int .i64 m] w fun e w' => e = .returned (.int .i64 m) ∧ w = w' := by
  go_enter Try.func16, Try.ntmps16
  go_wp2
  go_loopg [1, 5] 0 (fun k mv iv wr => mv = .int .i64 m ∧ iv = .int .i64 0 ∧ wr = w)
  case atStart => exact ⟨rfl, rfl, rfl⟩
  case round =>
    obtain ⟨rfl, rfl, rfl⟩ := hrel
    go_wp2
    go_ret
    exact ⟨rfl, rfl⟩
theorem held_nil (m : Int) (w : World) : Calls Try.prog 17 #[.slice none 0 0, .int .i64 m] w fun e w' => e = .returned (.int .i64 m) ∧ w = w' := by
  go_enter Try.func17, Try.ntmps17
  go_wp2
  go_loopg [1, 5] 0 (fun k mv iv wr => mv = .int .i64 m ∧ iv = .int .i64 0 ∧ wr = w)
  case atStart => exact ⟨rfl, rfl, rfl⟩
  case round =>
    obtain ⟨rfl, rfl, rfl⟩ := hrel
    go_wp2
    go_ret
    exact ⟨rfl, rfl⟩

/-- the marking's result -/
def Marked (w : World) (g n cap : Nat) (m : Int) (e : Ending) (w' : World) : Prop := e = .returned (.int .i64 (m + n)) ∧ Arr w' g n cap (mk m) ∧ w.grownBy w' (some g)

set_option maxHeartbeats 400000 in
theorem mark_any (m : Int) (n g cap : Nat) (f : Nat → Int) (w : World) (ha : Arr w g n cap f) (hn : n ≤ 1000000) (hm : 0 ≤ m ∧ m ≤ 1000000) :
    Calls Try.prog 16 #[.slice (some ⟨g, 0, none⟩) n cap, .int .i64 m] w (Marked w g n cap m) := by
  obtain ⟨hm0, hm1⟩ := hm
  go_enter Try.func16, Try.ntmps16
  go_wp2
  go_loopg [1, 5] n (fun k mv iv wr => ∃ (i : Nat) (v : Int), i + k = n ∧ v = m + i ∧ mv = .int .i64 v ∧ iv = .int .i64 i ∧ Arr wr g n cap (fun t => if t < i then mk m t else f t) ∧ w.grownBy wr (some g))
  case atStart => exact ⟨0, m, by omega, by omega, rfl, rfl, ha.congr (fun i hi => by rw [if_neg (by omega)]), grown_refl w g⟩
  case round =>
    obtain ⟨i, v, hik, hv, rfl, rfl, ha2, hg2⟩ := hrel
    have Hik := Lib.hid hik
    have hin : i ≤ n := by omega
    have Hv := Lib.hid hv
    have hv0 : 0 ≤ v := by omega
    have hv1 : v ≤ 2000000 := by omega
    clear hik hv
    by_cases hlt : i < n
    · have e1 := ha2.cell hlt
      have ef := ha2.frozen
      go_wp2_with fail
      go_roundg (gk - 1)
      case measure => have := Hik.out; omega
      case rel =>
        refine ⟨i + 1, v + 1, by have := Hik.out; omega, by have := Hv.out; omega, by go_num, by go_num, ?_, grown_set hg2 _ _⟩
        refine (ha2.set v).congr (fun t ht => ?_)
        unfold upd
        by_cases x : t = i
        · subst x; rw [if_pos rfl, if_pos (by omega), Hv.out]; rfl
        · rw [if_neg x]
          show (if t < i then mk m t else f t) = _
          by_cases y : t < i
          · rw [if_pos y, if_pos (by omega)]
          · rw [if_neg y, if_neg (by omega)]
    · have hi : i = n := by omega
      subst hi
      go_wp2_with fail
      go_ret
      refine ⟨ret_int Hv.out, ha2.congr (fun t ht => by rw [if_pos ht]), hg2⟩

theorem held_any (m : Int) (n g cap : Nat) (w : World) (ha : Arr w g n cap (mk m)) (hn : n ≤ 1000000) (hm : 0 ≤ m ∧ m ≤ 1000000) :
    Calls Try.prog 17 #[.slice (some ⟨g, 0, none⟩) n cap, .int .i64 m] w fun e w' => e = .returned (.int .i64 (m + n)) ∧ w = w' := by
  obtain ⟨hm0, hm1⟩ := hm
  go_enter Try.func17, Try.ntmps17
  go_wp2
  go_loopg [1, 5] n (fun k mv iv wr => ∃ (i : Nat) (v : Int), i + k = n ∧ v = m + i ∧ mv = .int .i64 v ∧ iv = .int .i64 i ∧ wr = w)
  case atStart => exact ⟨0, m, by omega, by omega, rfl, rfl, rfl⟩
  case round =>
    obtain ⟨i, v, hik, hv, rfl, rfl, rfl⟩ := hrel
    have Hik := Lib.hid hik
    have hin : i ≤ n := by omega
    have Hv := Lib.hid hv
    have hv0 : 0 ≤ v := by omega
    have hv1 : v ≤ 2000000 := by omega
    clear hik hv
    by_cases hlt : i < n
    · have e1 := ha.cell hlt
      rw [show mk m i = v from Hv.out.symm] at e1
      have e3 : (v != v) = false := by simp
      go_wp2_with fail
      go_roundg (gk - 1)
      case measure => have := Hik.out; omega
      case rel => exact ⟨i + 1, v + 1, by have := Hik.out; omega, by have := Hv.out; omega, by go_num, by go_num, rfl⟩
    · have hi : i = n := by omega
      subst hi
      go_wp2_with fail
      go_ret
      exact ⟨ret_int Hv.out, rfl⟩

end Go.Proofs.Ytcphdmhcpjfedaa
