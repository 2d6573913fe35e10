/- All reduced forms of a discriminant, as the reference finds them; the codes of numbers that are none. -/
import Derived.Test.YtcphdmhcpjfedaaCnf
namespace Go.Proofs.Ytcphdmhcpjfedaa
open Go.RowKit

/-- the call hands back a new list of forms, and the code 0 -/
def NewFormsCode (w : World) (L : List Fm) (e : Ending) (w' : World) : Prop :=
  ∃ g cap, e = .returned (.tuple #[.slice (some ⟨g, 0, none⟩) L.length cap, .int .i64 0]) ∧ w'.ownsRow w.heap.size 39 3 (.slice (some ⟨g, 0, none⟩) L.length cap) L.length (fcells L) ∧ Below w.heap.size w w'

set_option maxHeartbeats 400000 in
set_option maxRecDepth 100000 in
theorem l06All_ok (d : Int) (hd : Hid (okD d)) (h4 : d % 4 ≤ 1) (w : World) :
    Calls Try.prog 98 #[.int .i64 d] w (NewFormsCode w (reds d)) := by
  obtain ⟨q1, q2, q3, q4⟩ := hd.out.sq
  have hq : (root d * root d == d) = false := by simp; omega
  obtain ⟨r0, r1⟩ := mul_bd (a := root d) (b := root d) (A := 63) (B := 63) (by omega) (by omega) (by omega) (by omega)
  clear q1 q2
  have d1 : 1 ≤ d := hd.out.1
  have d2 : d ≤ 4000 := hd.out.2.1
  obtain ⟨W, hW⟩ : ∃ W, root d = W := ⟨_, rfl⟩
  rw [hW] at q3 q4 hq r0 r1
  have HW := Lib.hid hW
  go_enter Try.func98, Try.ntmps98
  go_wp2_with (first | (go_at_call 105; refine (l01In_any _ _ _ _).mono ?_; rintro e w' ⟨rfl, rfl⟩) | (go_at_call 121; refine (l06Root_any _ d2 _).mono ?_; rintro e w' ⟨rfl, rfl⟩))
  go_loopg [5, 6] (2 * W + 1).toNat (fun k out av wr => ∃ (i g cap n : Nat) (A : Int), i + k = (2 * W + 1).toNat ∧ A = i - W ∧ out = .slice (some ⟨g, 0, none⟩) n cap ∧ av = .int .i64 A ∧
    wr.ownsRow w.heap.size 39 3 (.slice (some ⟨g, 0, none⟩) n cap) n (fcells (rowsTo d W i)) ∧ Below w.heap.size w wr)
  case atStart =>
    refine ⟨0, w.heap.size, 0, 0, -W, by omega, by omega, rfl, rfl, ?_, below_box0 w _⟩
    exact own_new w [] 39 w.heap.size 3 0 (Nat.le_refl _) rfl (by decide)
  case round =>
    obtain ⟨i, g, cap, n, A, hik, hA, rfl, rfl, hown, hbel⟩ := hrel
    obtain ⟨ko, rfl⟩ : ∃ x, x = gk := ⟨_, rfl⟩
    have Hik := Lib.hid hik
    have HA := Lib.hid hA
    have hn := row_length hown
    have hl := rowsTo_length d W i
    have hA1 : -63 ≤ A ∧ A ≤ 64 := by omega
    obtain ⟨hA1, hA2⟩ := hA1
    have hi : i ≤ 127 := by omega
    have hn2 : n ≤ 10000 := by
      have : i * W.toNat ≤ 127 * 63 := Nat.mul_le_mul hi (by omega)
      omega
    have hA3 : A ≤ W → i < (2 * W + 1).toNat := fun h => by omega
    have hA4 : ¬ A ≤ W → i = (2 * W + 1).toNat := fun h => by omega
    have Hn := Lib.hid hn
    have HA3 := Lib.hid hA3
    have HA4 := Lib.hid hA4
    clear hik hA hn hl hA3 hA4
    by_cases hlt : A ≤ W
    · go_wp2_with fail
      go_loopg [5, 7] W.toNat (fun k out bv wr2 => ∃ (j g2 cap2 n2 : Nat) (B : Int), j + k = W.toNat ∧ B = j + 1 ∧ out = .slice (some ⟨g2, 0, none⟩) n2 cap2 ∧ bv = .int .i64 B ∧
        wr2.ownsRow w.heap.size 39 3 (.slice (some ⟨g2, 0, none⟩) n2 cap2) n2 (fcells (rowsTo d W i ++ rowTo d W A j)) ∧ Below w.heap.size w wr2)
      case atStart =>
        refine ⟨0, g, cap, n, 1, by omega, by omega, rfl, rfl, ?_, hbel⟩
        have : rowTo d W A 0 = [] := by unfold rowTo; split <;> simp
        rw [this, List.append_nil]; exact hown
      case round =>
        obtain ⟨j, g2, cap2, n2, B, hjk, hB, rfl, rfl, hown2, hbel2⟩ := hrel
        have Hjk := Lib.hid hjk
        have HB := Lib.hid hB
        have hl2 := rowTo_length d W A j
        have hn3 := row_length hown2
        rw [List.length_append, ← Hn.out] at hn3
        have hB1 : 1 ≤ B ∧ B ≤ 64 := by omega
        obtain ⟨hB1, hB2⟩ := hB1
        have hn4 : n2 ≤ 20000 := by omega
        have hsz := hbel2.size
        have hB3 : B ≤ W → j < W.toNat := fun h => by omega
        have hB4 : ¬ B ≤ W → j = W.toNat := fun h => by omega
        have HB3 := Lib.hid hB3
        have HB4 := Lib.hid hB4
        clear hjk hB hl2 hn3 hB3 hB4
        obtain ⟨p0, p1⟩ := mul_bd (a := B) (b := B) (A := 64) (B := 64) (by omega) (by omega) (by omega) (by omega)
        by_cases hin : B ≤ W
        · by_cases hA0 : A = 0
          · have hA5 : (A != 0) = false := by simp [hA0]
            have HA0 := Lib.hid hA0
            clear hA0
            go_wp2_with fail
            go_roundg (ko - 1)
            case measure => have := Hik.out; have := HA3.out hlt; omega
            case rel =>
              refine ⟨i + 1, g2, cap2, n2, A + 1, by have := Hik.out; have := HA3.out hlt; omega, by have := HA.out; omega, rfl, rfl, ?_, hbel2⟩
              have e : rowsTo d W i ++ rowTo d W A j = rowsTo d W (i + 1) := by
                rw [rowsTo_succ, ← HA.out, HA0.out]; simp [rowTo]
              rw [← e]; exact hown2
          · have hA5 : (A != 0) = true := by simp [hA0]
            have hA6 : ¬ 4 * A = 0 := by omega
            obtain ⟨t0, t1⟩ := tdiv_bounds (B * B - d) (4 * A) (m := 8192) (by omega) (by omega)
            by_cases hm : (B * B - d).tmod (4 * A) = 0
            · have hm1 : ((B * B - d).tmod (4 * A) != 0) = false := by simp [hm]
              have hdd0 := dsc_of_rem hm
              have htry : tryF d W A (j + 1) = if redB ⟨A, B, (B * B - d).tdiv (4 * A)⟩ W = true then some ⟨A, B, (B * B - d).tdiv (4 * A)⟩ else none := by
                unfold tryF
                rw [← HB.out]
                simp only [hm, true_and]
              obtain ⟨C, hC⟩ : ∃ C, (B * B - d).tdiv (4 * A) = C := ⟨_, rfl⟩
              rw [hC] at t0 t1 hdd0 htry
              have Htry := Lib.hid htry
              have hdd : Hid (dsc ⟨A, B, C⟩ = d) := hdd0
              have hsm : Hid (small ⟨A, B, C⟩) := by refine ⟨⟨?_, ?_⟩, ⟨?_, ?_⟩, ⟨?_, ?_⟩⟩ <;> simp only <;> omega
              clear hm htry hdd0
              obtain ⟨r, hr⟩ : ∃ r, redB ⟨A, B, C⟩ W = r := ⟨_, rfl⟩
              have Hr := Lib.hid hr
              clear hr
              cases r with
              | true =>
                go_wp2_with (first | (go_at_call 126; refine (l06Reduced_to hsm hd HW Hr _).mono ?_; rintro e w5 ⟨rfl, hb5⟩; have hx5 := (Fb.new wr A B C).below hb5; obtain ⟨m0, m1, m2⟩ := hx5.cell; have hown5 := own_below (hown2.alloc _) hb5; have hsz5 := hb5.size; simp only [World.size_alloc] at hsz5) | (at_builtin; refine append_form rfl (.tmp 64) (.tmp 66) rfl w.heap.size g2 cap2 n2 _ rfl (hown5.alloc _) A B C w5.heap.size rfl (heap_alloc_new w5 _) (by omega) (by simp; omega) _ rfl ?_; intro g6 cap6 w6 hown6 hgr6 hat6 hlt6))
                go_roundg (gk - 1)
                case measure => have := Hjk.out; have := HB3.out hin; omega
                case rel =>
                  refine ⟨j + 1, g6, cap6, n2 + 1, B + 1, by have := Hjk.out; have := HB3.out hin; omega, by have := HB.out; omega, rfl, rfl, ?_, ?_⟩
                  · rw [rowTo_succ d W A hA0, Htry.out, if_pos Hr.out, ← List.append_assoc]; exact hown6
                  · have hgb := hown2.lt g2 rfl
                    have b5 := (hbel2.alloc hsz _).trans (hb5.mono (by simp; omega))
                    have b6 := b5.alloc (by omega) (.cells #[.int .i64 A, .int .i64 B, .int .i64 C] 39)
                    exact b6.grown hgr6 (by simp; omega) (fun k hk => by injection hk with hk; omega)
              | false =>
                go_wp2_with (first | (go_at_call 126; refine (l06Reduced_to hsm hd HW Hr _).mono ?_; rintro e w5 ⟨rfl, hb5⟩; have hown5 := own_below (hown2.alloc _) hb5))
                go_roundg (gk - 1)
                case measure => have := Hjk.out; have := HB3.out hin; omega
                case rel =>
                  refine ⟨j + 1, g2, cap2, n2, B + 1, by have := Hjk.out; have := HB3.out hin; omega, by have := HB.out; omega, rfl, rfl, ?_, ?_⟩
                  · rw [rowTo_succ d W A hA0, Htry.out, if_neg (by rw [Hr.out]; decide)]; simpa using hown5
                  · exact (hbel2.alloc hsz _).trans (hb5.mono (by simp; omega))
            · have hm1 : ((B * B - d).tmod (4 * A) != 0) = true := by simp [hm]
              have htry : tryF d W A (j + 1) = none := by
                unfold tryF
                rw [← HB.out, if_neg (fun h => hm h.1)]
              have Htry := Lib.hid htry
              clear htry hm
              go_wp2_with fail
              go_roundg (gk - 1)
              case measure => have := Hjk.out; have := HB3.out hin; omega
              case rel =>
                refine ⟨j + 1, g2, cap2, n2, B + 1, by have := Hjk.out; have := HB3.out hin; omega, by have := HB.out; omega, rfl, rfl, ?_, hbel2⟩
                rw [rowTo_succ d W A hA0, Htry.out]; simpa using hown2
        · go_wp2_with fail
          go_roundg (ko - 1)
          case measure => have := Hik.out; have := HA3.out hlt; omega
          case rel =>
            refine ⟨i + 1, g2, cap2, n2, A + 1, by have := Hik.out; have := HA3.out hlt; omega, by have := HA.out; omega, rfl, rfl, ?_, hbel2⟩
            rw [rowsTo_succ, ← HA.out, ← HB4.out hin]; exact hown2
    · go_wp2_with fail
      go_ret2
      have hl : n = (reds d).length := by rw [Hn.out]; unfold reds; rw [HW.out, ← HA4.out hlt]
      refine ⟨g, cap, ?_, ?_, hbel⟩
      · rw [← hl]; rfl
      · rw [← hl]
        unfold reds
        rw [HW.out, ← HA4.out hlt]; exact hown


/-- the code of a number that has to be a discriminant -/
def dcode (d : Int) : Int := if 1 ≤ d ∧ d ≤ 4000 then (if root d * root d = d ∨ 1 < d % 4 then 5 else 0) else 2

theorem dcode_zero {d : Int} (h : dcode d = 0) : okD d ∧ d % 4 ≤ 1 := by
  unfold dcode at h
  split at h
  · split at h
    · simp at h
    · rename_i h1 h2
      exact ⟨⟨h1.1, h1.2, fun e => h2 (.inl e)⟩, by omega⟩
  · simp at h

theorem l06All_bad (d : Int) (c : Int) (hc : dcode d = c) (h0 : c ≠ 0) (w : World) :
    Calls Try.prog 98 #[.int .i64 d] w fun e w' => e = .returned (.tuple #[.slice none 0 0, .int .i64 c]) ∧ w = w' := by
  by_cases h1 : 1 ≤ d ∧ d ≤ 4000
  · obtain ⟨h1, h2⟩ := h1
    obtain ⟨r2, r3⟩ := root_bd d h2
    obtain ⟨r0, r1⟩ := mul_bd (a := root d) (b := root d) (A := 63) (B := 63) (by omega) (by omega) (by omega) (by omega)
    by_cases hq : root d * root d = d
    · have hc5 : c = 5 := by rw [← hc]; unfold dcode; rw [if_pos ⟨h1, h2⟩, if_pos (.inl hq)]
      subst hc5
      have hq1 : (root d * root d == d) = true := by simp [hq]
      have Hq := Lib.hid hq
      clear hq hc
      go_enter Try.func98, Try.ntmps98
      go_wp2_with (first | (go_at_call 105; refine (l01In_any _ _ _ _).mono ?_; rintro e w' ⟨rfl, rfl⟩) | (go_at_call 121; refine (l06Root_any _ h2 _).mono ?_; rintro e w' ⟨rfl, rfl⟩))
      go_ret2
      exact ⟨rfl, rfl⟩
    · have hm : 1 < d % 4 := by
        apply Classical.byContradiction
        intro hn
        apply h0
        rw [← hc]; unfold dcode; rw [if_pos ⟨h1, h2⟩, if_neg (by rintro (h | h); exact hq h; exact hn h)]
      have hc5 : c = 5 := by rw [← hc]; unfold dcode; rw [if_pos ⟨h1, h2⟩, if_pos (.inr hm)]
      subst hc5
      have hq1 : (root d * root d == d) = false := by simp [hq]
      have Hq := Lib.hid hq
      clear hq hc
      go_enter Try.func98, Try.ntmps98
      go_wp2_with (first | (go_at_call 105; refine (l01In_any _ _ _ _).mono ?_; rintro e w' ⟨rfl, rfl⟩) | (go_at_call 121; refine (l06Root_any _ h2 _).mono ?_; rintro e w' ⟨rfl, rfl⟩))
      go_ret2
      exact ⟨rfl, rfl⟩
  · have hc2 : c = 2 := by rw [← hc]; unfold dcode; rw [if_neg h1]
    subst hc2
    clear hc
    have hb : (decide (1 ≤ d) && decide (d ≤ 4000)) = false := by rw [Bool.and_eq_false_iff]; simp only [decide_eq_false_iff_not]; omega
    go_enter Try.func98, Try.ntmps98
    go_wp2_with (first | (go_at_call 105; refine (l01In_any _ _ _ _).mono ?_; rw [hb]; rintro e w' ⟨rfl, rfl⟩))
    go_ret2
    exact ⟨rfl, rfl⟩

theorem discFault_any (d : Int) (w : World) :
    Calls Try.prog 101 #[.int .i64 d] w fun e w' => e = .returned (.int .i64 (dcode d)) ∧ w = w' := by
  by_cases h1 : 1 ≤ d ∧ d ≤ 4000
  · have hc5 : dcode d = if root d * root d = d ∨ 1 < d % 4 then 5 else 0 := by unfold dcode; rw [if_pos h1]
    obtain ⟨h1, h2⟩ := h1
    have Hc5 := Lib.hid hc5
    have hok : okB d = !decide (root d * root d = d) := by unfold okB; simp [h1, h2]; rfl
    by_cases hq : root d * root d = d
    · have hk : okB d = false := by rw [hok]; simp [hq]
      have Hq := Lib.hid hq
      clear hq hc5 hok
      go_enter Try.func101, Try.ntmps101
      go_wp2_with (first | (go_at_call 108; refine (in_any _ _ _ _).mono ?_; rintro e w' ⟨rfl, rfl⟩) | (go_at_call 123; refine (discOk_any _ _).mono ?_; rintro e w' ⟨rfl, rfl⟩))
      go_ret
      exact ⟨ret_int (by rw [Hc5.out, if_pos (.inl Hq.out)]), rfl⟩
    · have hk : okB d = true := by rw [hok]; simp [hq]
      have Hq := Lib.hid hq
      clear hq hc5 hok
      go_enter Try.func101, Try.ntmps101
      go_wp2_with (first | (go_at_call 108; refine (in_any _ _ _ _).mono ?_; rintro e w' ⟨rfl, rfl⟩) | (go_at_call 123; refine (discOk_any _ _).mono ?_; rintro e w' ⟨rfl, rfl⟩))
      all_goals go_ret
      all_goals refine ⟨ret_int ?_, rfl⟩
      · rw [Hc5.out, if_pos (by right; omega)]
      · rw [Hc5.out, if_neg (by rintro (h | h); exact Hq.out h; omega)]
  · have hc2 : dcode d = 2 := by unfold dcode; rw [if_neg h1]
    rw [hc2]
    have hb : (decide (1 ≤ d) && decide (d ≤ 4000)) = false := by rw [Bool.and_eq_false_iff]; simp only [decide_eq_false_iff_not]; omega
    go_enter Try.func101, Try.ntmps101
    go_wp2_with (first | (go_at_call 108; refine (in_any _ _ _ _).mono ?_; rw [hb]; rintro e w' ⟨rfl, rfl⟩))
    go_ret
    exact ⟨rfl, rfl⟩

end Go.Proofs.Ytcphdmhcpjfedaa
