/- All reduced forms of a discriminant. -/
import Derived.Test.YtcphdmhcpjfedaaCne
namespace Go.Proofs.Ytcphdmhcpjfedaa
open Go.RowKit

theorem dsc_of_rem {A B d : Int} (h : (B * B - d).tmod (4 * A) = 0) : dsc ⟨A, B, (B * B - d).tdiv (4 * A)⟩ = d := by
  have := Int.mul_tdiv_add_tmod (B * B - d) (4 * A)
  rw [h] at this
  unfold dsc
  simp only
  generalize (B * B - d).tdiv (4 * A) = q at *
  grind

set_option maxHeartbeats 400000 in
set_option maxRecDepth 100000 in
theorem reducedForms_any (d : Int) (hd : Hid (okD d)) (w : World) :
    Calls Try.prog 102 #[.int .i64 d] w (NewForms w (reds d)) := by
  obtain ⟨q1, q2, q3, q4⟩ := hd.out.sq
  clear q1 q2
  have d1 : 1 ≤ d := hd.out.1
  have d2 : d ≤ 4000 := hd.out.2.1
  obtain ⟨W, hW⟩ : ∃ W, root d = W := ⟨_, rfl⟩
  rw [hW] at q3 q4
  have HW := Lib.hid hW
  go_enter Try.func102, Try.ntmps102
  go_wp2_with (first | (go_at_call 175; refine (root_any _ d2 _).mono ?_; rintro e w' ⟨rfl, rfl⟩))
  go_loopg [3, 5] (2 * W + 1).toNat (fun k out av wr => ∃ (i g cap n : Nat) (A : Int), i + k = (2 * W + 1).toNat ∧ A = i - W ∧ out = .slice (some ⟨g, 0, none⟩) n cap ∧ av = .int .i64 A ∧
    wr.ownsRow w.heap.size 39 3 (.slice (some ⟨g, 0, none⟩) n cap) n (fcells (rowsTo d W i)) ∧ Below w.heap.size w wr)
  case atStart =>
    refine ⟨0, w.heap.size, 0, 0, -W, by omega, by omega, rfl, rfl, ?_, below_box0 w _⟩
    exact own_new w [] 39 w.heap.size 3 0 (Nat.le_refl _) rfl (by decide)
  case round =>
    obtain ⟨i, g, cap, n, A, hik, hA, rfl, rfl, hown, hbel⟩ := hrel
    obtain ⟨ko, rfl⟩ : ∃ x, x = gk := ⟨_, rfl⟩
    have Hik := Lib.hid hik
    have HA := Lib.hid hA
    have hn := row_length hown
    have hl := rowsTo_length d W i
    have hA1 : -63 ≤ A ∧ A ≤ 64 := by omega
    obtain ⟨hA1, hA2⟩ := hA1
    have hi : i ≤ 127 := by omega
    have hn2 : n ≤ 10000 := by
      have : i * W.toNat ≤ 127 * 63 := Nat.mul_le_mul hi (by omega)
      omega
    have hA3 : A ≤ W → i < (2 * W + 1).toNat := fun h => by omega
    have hA4 : ¬ A ≤ W → i = (2 * W + 1).toNat := fun h => by omega
    have Hn := Lib.hid hn
    have HA3 := Lib.hid hA3
    have HA4 := Lib.hid hA4
    clear hik hA hn hl hA3 hA4
    by_cases hlt : A ≤ W
    · go_wp2_with fail
      go_loopg [3, 6] W.toNat (fun k out bv wr2 => ∃ (j g2 cap2 n2 : Nat) (B : Int), j + k = W.toNat ∧ B = j + 1 ∧ out = .slice (some ⟨g2, 0, none⟩) n2 cap2 ∧ bv = .int .i64 B ∧
        wr2.ownsRow w.heap.size 39 3 (.slice (some ⟨g2, 0, none⟩) n2 cap2) n2 (fcells (rowsTo d W i ++ rowTo d W A j)) ∧ Below w.heap.size w wr2)
      case atStart =>
        refine ⟨0, g, cap, n, 1, by omega, by omega, rfl, rfl, ?_, hbel⟩
        have : rowTo d W A 0 = [] := by unfold rowTo; split <;> simp
        rw [this, List.append_nil]; exact hown
      case round =>
        obtain ⟨j, g2, cap2, n2, B, hjk, hB, rfl, rfl, hown2, hbel2⟩ := hrel
        have Hjk := Lib.hid hjk
        have HB := Lib.hid hB
        have hl2 := rowTo_length d W A j
        have hn3 := row_length hown2
        rw [List.length_append, ← Hn.out] at hn3
        have hB1 : 1 ≤ B ∧ B ≤ 64 := by omega
        obtain ⟨hB1, hB2⟩ := hB1
        have hn4 : n2 ≤ 20000 := by omega
        have hsz := hbel2.size
        have hB3 : B ≤ W → j < W.toNat := fun h => by omega
        have hB4 : ¬ B ≤ W → j = W.toNat := fun h => by omega
        have HB3 := Lib.hid hB3
        have HB4 := Lib.hid hB4
        clear hjk hB hl2 hn3 hB3 hB4
        obtain ⟨p0, p1⟩ := mul_bd (a := B) (b := B) (A := 64) (B := 64) (by omega) (by omega) (by omega) (by omega)
        by_cases hin : B ≤ W
        · by_cases hA0 : A = 0
          · have hA5 : (A != 0) = false := by simp [hA0]
            have HA0 := Lib.hid hA0
            clear hA0
            go_wp2_with fail
            go_roundg (ko - 1)
            case measure => have := Hik.out; have := HA3.out hlt; omega
            case rel =>
              refine ⟨i + 1, g2, cap2, n2, A + 1, by have := Hik.out; have := HA3.out hlt; omega, by have := HA.out; omega, rfl, rfl, ?_, hbel2⟩
              have e : rowsTo d W i ++ rowTo d W A j = rowsTo d W (i + 1) := by
                rw [rowsTo_succ, ← HA.out, HA0.out]; simp [rowTo]
              rw [← e]; exact hown2
          · have hA5 : (A != 0) = true := by simp [hA0]
            have hA6 : ¬ 4 * A = 0 := by omega
            obtain ⟨t0, t1⟩ := tdiv_bounds (B * B - d) (4 * A) (m := 8192) (by omega) (by omega)
            by_cases hm : (B * B - d).tmod (4 * A) = 0
            · have hm1 : ((B * B - d).tmod (4 * A) != 0) = false := by simp [hm]
              have hdd0 := dsc_of_rem hm
              have htry : tryF d W A (j + 1) = if redB ⟨A, B, (B * B - d).tdiv (4 * A)⟩ W = true then some ⟨A, B, (B * B - d).tdiv (4 * A)⟩ else none := by
                unfold tryF
                rw [← HB.out]
                simp only [hm, true_and]
              obtain ⟨C, hC⟩ : ∃ C, (B * B - d).tdiv (4 * A) = C := ⟨_, rfl⟩
              rw [hC] at t0 t1 hdd0 htry
              have Htry := Lib.hid htry
              have hdd : Hid (dsc ⟨A, B, C⟩ = d) := hdd0
              have hsm : Hid (small ⟨A, B, C⟩) := by refine ⟨⟨?_, ?_⟩, ⟨?_, ?_⟩, ⟨?_, ?_⟩⟩ <;> simp only <;> omega
              clear hm htry hdd0
              obtain ⟨r, hr⟩ : ∃ r, redB ⟨A, B, C⟩ W = r := ⟨_, rfl⟩
              have Hr := Lib.hid hr
              clear hr
              cases r with
              | true =>
                go_wp2_with (first | (go_at_call 125; refine (reduced_to hsm hdd hd HW Hr _).mono ?_; rintro e w5 ⟨rfl, hb5⟩; have hx5 := (Fb.new wr A B C).below hb5; obtain ⟨m0, m1, m2⟩ := hx5.cell; have hown5 := own_below (hown2.alloc _) hb5; have hsz5 := hb5.size; simp only [World.size_alloc] at hsz5) | (at_builtin; refine append_form rfl (.tmp 49) (.tmp 51) rfl w.heap.size g2 cap2 n2 _ rfl (hown5.alloc _) A B C w5.heap.size rfl (heap_alloc_new w5 _) (by omega) (by simp; omega) _ rfl ?_; intro g6 cap6 w6 hown6 hgr6 hat6 hlt6))
                go_roundg (gk - 1)
                case measure => have := Hjk.out; have := HB3.out hin; omega
                case rel =>
                  refine ⟨j + 1, g6, cap6, n2 + 1, B + 1, by have := Hjk.out; have := HB3.out hin; omega, by have := HB.out; omega, rfl, rfl, ?_, ?_⟩
                  · rw [rowTo_succ d W A hA0, Htry.out, if_pos Hr.out, ← List.append_assoc]; exact hown6
                  · have hgb := hown2.lt g2 rfl
                    have b5 := (hbel2.alloc hsz _).trans (hb5.mono (by simp; omega))
                    have b6 := b5.alloc (by omega) (.cells #[.int .i64 A, .int .i64 B, .int .i64 C] 39)
                    exact b6.grown hgr6 (by simp; omega) (fun k hk => by injection hk with hk; omega)
              | false =>
                go_wp2_with (first | (go_at_call 125; refine (reduced_to hsm hdd hd HW Hr _).mono ?_; rintro e w5 ⟨rfl, hb5⟩; have hown5 := own_below (hown2.alloc _) hb5))
                go_roundg (gk - 1)
                case measure => have := Hjk.out; have := HB3.out hin; omega
                case rel =>
                  refine ⟨j + 1, g2, cap2, n2, B + 1, by have := Hjk.out; have := HB3.out hin; omega, by have := HB.out; omega, rfl, rfl, ?_, ?_⟩
                  · rw [rowTo_succ d W A hA0, Htry.out, if_neg (by rw [Hr.out]; decide)]; simpa using hown5
                  · exact (hbel2.alloc hsz _).trans (hb5.mono (by simp; omega))
            · have hm1 : ((B * B - d).tmod (4 * A) != 0) = true := by simp [hm]
              have htry : tryF d W A (j + 1) = none := by
                unfold tryF
                rw [← HB.out, if_neg (fun h => hm h.1)]
              have Htry := Lib.hid htry
              clear htry hm
              go_wp2_with fail
              go_roundg (gk - 1)
              case measure => have := Hjk.out; have := HB3.out hin; omega
              case rel =>
                refine ⟨j + 1, g2, cap2, n2, B + 1, by have := Hjk.out; have := HB3.out hin; omega, by have := HB.out; omega, rfl, rfl, ?_, hbel2⟩
                rw [rowTo_succ d W A hA0, Htry.out]; simpa using hown2
        · go_wp2_with fail
          go_roundg (ko - 1)
          case measure => have := Hik.out; have := HA3.out hlt; omega
          case rel =>
            refine ⟨i + 1, g2, cap2, n2, A + 1, by have := Hik.out; have := HA3.out hlt; omega, by have := HA.out; omega, rfl, rfl, ?_, hbel2⟩
            rw [rowsTo_succ, ← HA.out, ← HB4.out hin]; exact hown2
    · go_wp2_with fail
      go_ret
      have hl : n = (reds d).length := by rw [Hn.out]; unfold reds; rw [HW.out, ← HA4.out hlt]
      refine ⟨g, cap, ?_, ?_, hbel⟩
      · rw [← hl]; rfl
      · rw [← hl]
        unfold reds
        rw [HW.out, ← HA4.out hlt]; exact hown

end Go.Proofs.Ytcphdmhcpjfedaa
