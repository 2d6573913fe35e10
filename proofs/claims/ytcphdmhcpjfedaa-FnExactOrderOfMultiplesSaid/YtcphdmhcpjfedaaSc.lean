/- Insertion in place, by the places of multiples. -/
import Derived.Test.YtcphdmhcpjfedaaSb
namespace Go.Proofs.Ytcphdmhcpjfedaa
open Go.RowKit

/-- the numbers of the ratio, as the program lets them in -/
structure Ok (p q : Int) : Prop where
  p0 : -1000000 ≤ p
  p1 : p ≤ 1000000
  q0 : 0 < q
  q1 : q ≤ 1000000

/-- the comparing function as a value -/
def cmpV (bp bq : Nat) : Value := .func (Fn.func 178) #[] #[.pointer (some ⟨bp, 0, none⟩), .pointer (some ⟨bq, 0, none⟩)]

theorem cmp_lt {a b p q : Int} {bp bq : Nat} {w : World} (hpq : PQ w bp bq p q) (h : Ok p q) (ha : 0 ≤ a ∧ a ≤ 1000000) (hb : 0 ≤ b ∧ b ≤ 1000000) (hk : key p q a < key p q b) :
    Calls Try.prog 178 #[.int .i64 a, .int .i64 b, .pointer (some ⟨bp, 0, none⟩), .pointer (some ⟨bq, 0, none⟩)] w fun e w' => e = .returned (.int .i64 (-1)) ∧ ∃ m, w' = w.drewN m :=
  (cmpc_any a b p q bp bq w hpq ha.1 ha.2 hb.1 hb.2 h.p0 h.p1 h.q0 h.q1).mono fun _ _ g => ⟨g.1.trans (ret_int (by unfold cmpI; rw [if_pos hk])), g.2⟩
theorem cmp_ge {a b p q c : Int} {bp bq : Nat} {w : World} (hpq : PQ w bp bq p q) (h : Ok p q) (ha : 0 ≤ a ∧ a ≤ 1000000) (hb : 0 ≤ b ∧ b ≤ 1000000) (hc : Hid (cmpI (key p q a) (key p q b) = c)) :
    Calls Try.prog 178 #[.int .i64 a, .int .i64 b, .pointer (some ⟨bp, 0, none⟩), .pointer (some ⟨bq, 0, none⟩)] w fun e w' => e = .returned (.int .i64 c) ∧ ∃ m, w' = w.drewN m :=
  (cmpc_any a b p q bp bq w hpq ha.1 ha.2 hb.1 hb.2 h.p0 h.p1 h.q0 h.q1).mono fun _ _ g => ⟨g.1.trans (ret_int hc.out), g.2⟩
theorem cmpI_lt {x y : Int} (h : x < y) : cmpI x y = -1 := by unfold cmpI; rw [if_pos h]
theorem cmpI_ge {x y : Int} (h : ¬ x < y) : 0 ≤ cmpI x y := by unfold cmpI; rw [if_neg h]; split <;> omega

theorem PQ.keep {w w' : World} {bp bq g : Nat} {p q : Int} (h : PQ w bp bq p q) (hg : w.grownBy w' (some g)) (h1 : bp ≠ g) (h2 : bq ≠ g) : PQ w' bp bq p q :=
  ⟨hg.cell h.1 (fun e => h1 (by injection e)), hg.cell h.2 (fun e => h2 (by injection e))⟩

/-- the call has sorted the part from a to b -/
def SortsTo (w : World) (g n cap : Nat) (ky : Int → Int) (f : Nat → Int) (a b : Nat) (e : Ending) (w' : World) : Prop :=
  ∃ f', e = .returned (.tuple #[]) ∧ Arr w' g n cap f' ∧ w.grownBy w' (some g) ∧ Srt ky f' a b ∧ Frm f' f a b

def Rng (n : Nat) (f : Nat → Int) : Prop := ∀ i, i < n → 0 ≤ f i ∧ f i ≤ 1000000
theorem Rng.frm {n a b : Nat} {f f' : Nat → Int} (h : Rng n f) (hb : b ≤ n) (hf : Frm f' f a b) : Rng n f' := by
  intro i hi
  by_cases x : a ≤ i ∧ i < b
  · obtain ⟨j, h1, h2, e⟩ := hf.1 i x.1 x.2
    rw [e]; exact h j (by omega)
  · rw [hf.2 i (by omega)]; exact h i hi

set_option maxHeartbeats 800000 in
set_option maxRecDepth 100000 in
theorem insertion_any {A B : Int} (a b : Nat) (hA : A = a) (hB : B = b) (g n cap : Nat) (f : Nat → Int) (p q : Int) (bp bq : Nat) (w : World) (harr : Arr w g n cap f) (hpq : PQ w bp bq p q) (n1 : bp ≠ g) (n2 : bq ≠ g) (hok : Hid (Ok p q))
    (hrng : Hid (Rng n f)) (h1 : a ≤ b) (h2 : b ≤ n) (h3 : n ≤ 1000000) (hinc : Hid (∀ i j, a ≤ i → i < j → j < b → f i < f j)) :
    Calls Try.prog 238 #[.slice (some ⟨g, 0, none⟩) n cap, .int .i64 A, .int .i64 B, cmpV bp bq] w (SortsTo w g n cap (key p q) f a b) := by
  subst hA
  subst hB
  unfold cmpV
  go_enter Try.func238, Try.ntmps238
  go_wp2
  go_loopg [8] (b - a) (fun k iv wr => ∃ (i : Nat) (f2 : Nat → Int), i + k = b + 1 ∧ (a < b → i ≤ b) ∧ a < i ∧ iv = .int .i64 i ∧ Arr wr g n cap f2 ∧ w.grownBy wr (some g) ∧ Srt (key p q) f2 a i ∧ Frm f2 f a (min i b))
  case atStart =>
    refine ⟨a + 1, f, by omega, fun h => by omega, by omega, rfl, harr, grown_refl w g, fun i j h1 h2 h3 => by omega, Frm.refl _ _ _⟩
  case round =>
    obtain ⟨i, f2, hik, hib, hai, rfl, ha2, hg2, hs2, hf2⟩ := hrel
    obtain ⟨ko, rfl⟩ : ∃ x, x = gk := ⟨_, rfl⟩
    have Hik := Lib.hid hik
    have Hib := Lib.hid hib
    have Hs2 := Lib.hid hs2
    have Hf2 := Lib.hid hf2
    clear hik hib hs2 hf2
    by_cases hlt : i < b
    · have hr2 : Hid (Rng n f2) := hrng.out.frm h2 (Hf2.out.widen (Nat.le_refl _) (by omega))
      have hx : ∀ t, a ≤ t → t < i → f2 t < f2 i := by
        intro t ht1 ht2
        have e1 : f2 i = f i := Hf2.out.2 i (by omega)
        obtain ⟨u, hu1, hu2, e2⟩ := Hf2.out.1 t ht1 (by omega)
        rw [e1, e2]; exact hinc.out u i hu1 (by omega) hlt
      have Hx := Lib.hid hx
      clear hx
      go_wp2_with fail
      go_loopg [9] (i - a) (fun k jv wr2 => ∃ j : Nat, j = a + k ∧ j ≤ i ∧ jv = .int .i64 j ∧ Arr wr2 g n cap (rot f2 j i (i + 1)) ∧ w.grownBy wr2 (some g) ∧ (∀ t, j ≤ t → t < i → Rk (key p q) (f2 i) (f2 t)))
      case atStart => exact ⟨i, by omega, by omega, rfl, by rw [rot_left]; exact ha2, hg2, fun t h1 h2 => by omega⟩
      case round =>
        obtain ⟨j, hjk, hji, rfl, ha3, hg3, hb3⟩ := hrel
        have Hjk := Lib.hid hjk
        have Hb3 := Lib.hid hb3
        have haj : a ≤ j := by omega
        clear hjk hb3
        by_cases hj : a < j
        · obtain ⟨j', rfl⟩ : ∃ j', j = j' + 1 := ⟨j - 1, by omega⟩
          have v1 : rot f2 (j' + 1) i (i + 1) (j' + 1) = f2 i := by simp only [rot]; rw [if_pos (by omega), if_pos (by omega)]; congr 1; omega
          have v2 : rot f2 (j' + 1) i (i + 1) j' = f2 j' := by simp only [rot]; rw [if_neg (by omega)]
          have c1 := ha3.cell (i := j' + 1) (by omega)
          have c2 := ha3.cell (i := j') (by omega)
          rw [v1] at c1
          rw [v2] at c2
          have ef := ha3.frozen
          have hpq3 := hpq.keep hg3 n1 n2
          have y1 := hr2.out i (by omega)
          have y2 := hr2.out j' (by omega)
          have V1 := Lib.hid v1
          have V2 := Lib.hid v2
          have s1 : (a : Int) < (j' : Int) + 1 := by omega
          have s2 : IntKind.i64.wrap ((j' : Int) + 1 - 1) = (j' : Int) := by rw [show (j' : Int) + 1 - 1 = j' by omega]; exact IntWalk.i64_in _ (by omega)
          clear v1 v2
          by_cases hk : key p q (f2 i) < key p q (f2 j')
          · have Hk := Lib.hid hk
            clear hk
            go_wp2_with fail
            go_big_quiet ((go_at_call 178; exact Calls.quiet_of (cmp_lt (hpq3) hok.out y1 y2 Hk.out)))
            go_wp2_with fail
            go_region
            go_wp2_with fail
            go_roundg (gk - 1)
            case measure => have := Hjk.out; omega
            case rel =>
              refine ⟨j', by have := Hjk.out; omega, by omega, by go_num, ?_, grown_set (grown_set (grown_drewN hg3 _) _ _) _ _, ?_⟩
              · have hb := rot_back (f := f2) (m := i) (k := j' + 1) hji (by omega)
                rw [show j' + 1 - 1 = j' by omega, V1.out, V2.out] at hb
                rw [← hb]
                exact ((ha3.drewN _).set _).set _
              · intro t ht1 ht2
                by_cases e : t = j'
                · subst e; exact .inl Hk.out
                · exact Hb3.out t (by omega) ht2
          · obtain ⟨c, hc⟩ : ∃ c, Hid (cmpI (key p q (f2 i)) (key p q (f2 j')) = c) := ⟨_, rfl⟩
            have hc0 : 0 ≤ c := by rw [← hc.out]; exact cmpI_ge hk
            have hc1 : decide (c < 0) = false := by simpa using hc0
            have Hk := Lib.hid hk
            clear hk
            go_wp2_with fail
            go_big_quiet ((go_at_call 178; exact Calls.quiet_of (cmp_ge (hpq3) hok.out y1 y2 hc)))
            go_wp2_with fail
            go_roundg (ko - 1)
            case measure => have := Hik.out; omega
            case rel =>
              have hrk : Rk (key p q) (f2 j') (f2 i) := Rk.of_not (Hx.out j' (by omega) (by omega)) (Int.not_lt.2 Hk.out)
              refine ⟨i + 1, _, by have := Hik.out; omega, fun _ => by omega, by omega, by go_num, ha3.drewN _, grown_drewN hg3 _, ?_, ?_⟩
              · refine place_last (by omega) hji Hs2.out (fun t ht1 ht2 => ?_) Hb3.out
                exact le_of_srt Hs2.out ht1 (show t ≤ j' by omega) (by omega) hrk
              · have h5 := (rot_frm (f := f2) (a := j' + 1) (m := i) (b := i + 1) hji (by omega)).widen (show a ≤ j' + 1 by omega) (show i + 1 ≤ min (i + 1) b by omega)
                exact h5.trans (Hf2.out.widen (Nat.le_refl _) (by omega))
        · have hja : j = a := by omega
          subst hja
          have s1 : decide ((j : Int) < (j : Int)) = false := by simp
          go_wp2_with fail
          go_big_quiet (fail)
          go_wp2_with fail
          go_roundg (ko - 1)
          case measure => have := Hik.out; omega
          case rel =>
            refine ⟨i + 1, _, by have := Hik.out; omega, fun _ => by omega, by omega, by go_num, ha3.drewN _, grown_drewN hg3 _, ?_, ?_⟩
            · exact place_last (Nat.le_refl _) hji Hs2.out (fun t ht1 ht2 => by omega) Hb3.out
            · have h5 := (rot_frm (f := f2) (a := j) (m := i) (b := i + 1) hji (by omega)).widen (Nat.le_refl j) (show i + 1 ≤ min (i + 1) b by omega)
              exact h5.trans (Hf2.out.widen (Nat.le_refl _) (by omega))
    · go_wp2_with fail
      go_end0
      refine ⟨f2, rfl, ha2, hg2, ?_, ?_⟩
      · by_cases hab : a < b
        · have hi : i = b := by have := Hib.out hab; omega
          subst hi
          exact Hs2.out
        · intro x y h1 h2 h3; omega
      · have := Hf2.out
        rw [show min i b = b by omega] at this
        exact this

end Go.Proofs.Ytcphdmhcpjfedaa
