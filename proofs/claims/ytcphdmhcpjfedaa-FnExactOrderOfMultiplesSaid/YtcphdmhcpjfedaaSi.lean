/- OrderOfMultiples of the program; the reference's checks. -/
import Derived.Test.YtcphdmhcpjfedaaSh
namespace Go.Proofs.Ytcphdmhcpjfedaa
open Go.RowKit

def inB (n lo hi : Int) : Bool := decide (lo ≤ n) && decide (n ≤ hi)
theorem in_is (n lo hi : Int) (b : Bool) (h : Hid (inB n lo hi = b)) (w : World) :
    Calls Try.prog 108 #[.int .i64 n, .int .i64 lo, .int .i64 hi] w fun e w' => e = .returned (.bool b) ∧ w = w' :=
  (in_any n lo hi w).mono fun _ _ g => ⟨g.1.trans (ret_bool h.out), g.2⟩
theorem l01In_is (n lo hi : Int) (b : Bool) (h : Hid (inB n lo hi = b)) (w : World) :
    Calls Try.prog 105 #[.int .i64 n, .int .i64 lo, .int .i64 hi] w fun e w' => e = .returned (.bool b) ∧ w = w' :=
  (l01In_any n lo hi w).mono fun _ _ g => ⟨g.1.trans (ret_bool h.out), g.2⟩

theorem isCoord_is (n : Int) (b : Bool) (h : Hid (inB n (-1000000) 1000000 = b)) (w : World) :
    Calls Try.prog 122 #[.int .i64 n] w fun e w' => e = .returned (.bool b) ∧ w = w' := by
  go_enter Try.func122, Try.ntmps122
  go_wp2_with (first | (go_at_call 108; refine (in_is _ _ _ b h _).mono ?_; rintro e w' ⟨rfl, rfl⟩))
  go_ret
  exact ⟨rfl, rfl⟩
theorem l01Fits_is (n : Int) (b : Bool) (h : Hid (inB n (-1000000) 1000000 = b)) (w : World) :
    Calls Try.prog 137 #[.int .i64 n] w fun e w' => e = .returned (.bool b) ∧ w = w' := by
  go_enter Try.func137, Try.ntmps137
  go_wp2_with (first | (go_at_call 105; refine (l01In_is _ _ _ b h _).mono ?_; rintro e w' ⟨rfl, rfl⟩))
  go_ret
  exact ⟨rfl, rfl⟩

def ratB (p q : Int) : Bool := inB p (-1000000) 1000000 && inB q 1 1000000
theorem ratioOk_is (p q : Int) (b : Bool) (h : Hid (ratB p q = b)) (w : World) :
    Calls Try.prog 139 #[.int .i64 p, .int .i64 q] w fun e w' => e = .returned (.bool b) ∧ w = w' := by
  obtain ⟨b1, h1⟩ : ∃ x, Hid (inB p (-1000000) 1000000 = x) := ⟨_, rfl⟩
  obtain ⟨b2, h2⟩ : ∃ x, Hid (inB q 1 1000000 = x) := ⟨_, rfl⟩
  obtain ⟨rfl⟩ : b = (b1 && b2) := by rw [← h.out, ← h1.out, ← h2.out]; rfl
  cases b1 <;> cases b2
  all_goals
    go_enter Try.func139, Try.ntmps139
    go_wp2_with (first | (go_at_call 122; refine (isCoord_is _ _ h1 _).mono ?_; rintro e w' ⟨rfl, rfl⟩) | (go_at_call 108; refine (in_is _ _ _ _ h2 _).mono ?_; rintro e w' ⟨rfl, rfl⟩))
    go_ret
    exact ⟨rfl, rfl⟩

def plB (p q : Int) : Bool := ratB p q && decide (2 ≤ q)
theorem placesOk_is (p q : Int) (b : Bool) (h : Hid (plB p q = b)) (w : World) :
    Calls Try.prog 107 #[.int .i64 p, .int .i64 q] w fun e w' => e = .returned (.bool b) ∧ w = w' := by
  obtain ⟨b1, h1⟩ : ∃ x, Hid (ratB p q = x) := ⟨_, rfl⟩
  obtain ⟨b2, h2⟩ : ∃ x, Hid (decide (2 ≤ q) = x) := ⟨_, rfl⟩
  obtain ⟨rfl⟩ : b = (b1 && b2) := by rw [← h.out, ← h1.out, ← h2.out]; rfl
  cases b1 <;> cases b2
  all_goals
    have h3 := h2.out
    go_enter Try.func107, Try.ntmps107
    go_wp2_with (first | (go_at_call 139; refine (ratioOk_is _ _ _ h1 _).mono ?_; rintro e w' ⟨rfl, rfl⟩))
    go_ret
    exact ⟨rfl, rfl⟩

/-- the reference's check of the ratio: the lower bound is the caller's -/
def plS (p q lo : Int) : Bool := inB p (-1000000) 1000000 && inB q lo 1000000
theorem l10Ratio_is (p q lo : Int) (b : Bool) (h : Hid (plS p q lo = b)) (w : World) :
    Calls Try.prog 104 #[.int .i64 p, .int .i64 q, .int .i64 lo] w fun e w' => e = .returned (.bool b) ∧ w = w' := by
  obtain ⟨b1, h1⟩ : ∃ x, Hid (inB p (-1000000) 1000000 = x) := ⟨_, rfl⟩
  obtain ⟨b2, h2⟩ : ∃ x, Hid (inB q lo 1000000 = x) := ⟨_, rfl⟩
  obtain ⟨rfl⟩ : b = (b1 && b2) := by rw [← h.out, ← h1.out, ← h2.out]; rfl
  cases b1 <;> cases b2
  all_goals
    go_enter Try.func104, Try.ntmps104
    go_wp2_with (first | (go_at_call 137; refine (l01Fits_is _ _ h1 _).mono ?_; rintro e w' ⟨rfl, rfl⟩) | (go_at_call 105; refine (l01In_is _ _ _ _ h2 _).mono ?_; rintro e w' ⟨rfl, rfl⟩))
    go_ret
    exact ⟨rfl, rfl⟩

theorem plS_two (p q : Int) : plS p q 2 = plB p q := by
  rw [Bool.eq_iff_iff]
  simp [plS, plB, ratB, inB]
  omega
theorem plB_ok {p q : Int} (h : plB p q = true) : Ok p q := by
  simp [plB, ratB, inB] at h
  exact ⟨by omega, by omega, by omega, by omega⟩

/-- the call hands back a new list of numbers, and the code 0 -/
def NewIntsCode (w : World) (L : List Int) (e : Ending) (w' : World) : Prop :=
  ∃ g cap, e = .returned (.tuple #[.slice (some ⟨g, 0, none⟩) L.length cap, .int .i64 0]) ∧ w'.ownsRow w.heap.size 2 1 (.slice (some ⟨g, 0, none⟩) L.length cap) L.length (icells L) ∧ Below w.heap.size w w'

set_option maxHeartbeats 400000 in
theorem implOrder_ok (p q n : Int) (h1 : Hid (plB p q = true)) (h2 : Hid (inB n 1 500 = true)) (w : World) :
    Calls Try.prog 14 #[.int .i64 p, .int .i64 q, .int .i64 n] w fun e w' => ∃ L, Good p q n.toNat L ∧ NewIntsCode w L e w' := by
  have hn : 1 ≤ n ∧ n ≤ 500 := by have := h2.out; simpa [inB] using this
  have hok := Lib.hid (plB_ok h1.out)
  obtain ⟨k, hk⟩ : ∃ k : Nat, n = k := ⟨n.toNat, by omega⟩
  have hk3 : k ≤ 500 := by omega
  have hkn : n.toNat = k := by omega
  rw [hkn]
  have Hk := Lib.hid hk
  clear hk hkn
  go_enter Try.func14, Try.ntmps14
  go_wp2_with (first | (go_at_call 107; refine (placesOk_is _ _ _ h1 _).mono ?_; rintro e w' ⟨rfl, rfl⟩) | (go_at_call 108; refine (in_is _ _ _ _ h2 _).mono ?_; rintro e w' ⟨rfl, rfl⟩) | (go_at_call 109; refine (multiples_any p q k Hk.out hok hk3 _).mono ?_; rintro e w1 ⟨L, hg, g, cap, rfl, hl, hb⟩))
  go_ret2
  exact ⟨L, hg, g, cap, rfl, hl, hb⟩

theorem implOrder_bad (p q n : Int) (h : Hid (¬ (plB p q = true ∧ inB n 1 500 = true))) (w : World) :
    Calls Try.prog 14 #[.int .i64 p, .int .i64 q, .int .i64 n] w fun e w' => e = .returned (.tuple #[.slice none 0 0, .int .i64 2]) ∧ w = w' := by
  obtain ⟨b1, h1⟩ : ∃ x, Hid (plB p q = x) := ⟨_, rfl⟩
  obtain ⟨b2, h2⟩ : ∃ x, Hid (inB n 1 500 = x) := ⟨_, rfl⟩
  cases b1 <;> cases b2
  case true.true => exact absurd ⟨h1.out, h2.out⟩ h.out
  all_goals
    go_enter Try.func14, Try.ntmps14
    go_wp2_with (first | (go_at_call 107; refine (placesOk_is _ _ _ h1 _).mono ?_; rintro e w' ⟨rfl, rfl⟩) | (go_at_call 108; refine (in_is _ _ _ _ h2 _).mono ?_; rintro e w' ⟨rfl, rfl⟩))
    go_ret2
    exact ⟨rfl, rfl⟩

end Go.Proofs.Ytcphdmhcpjfedaa
