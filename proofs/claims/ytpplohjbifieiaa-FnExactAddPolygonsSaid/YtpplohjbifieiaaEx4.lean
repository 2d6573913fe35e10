-- Machine side,written by a program of this session.
-- narrowed
import Derived.Test.YtpplohjbifieiaaEx0
import Derived.Test.YtpplohjbifieiaaEx2
import Derived.Test.YtpplohjbifieiaaEx3
namespace Go.Proofs.Ytpplohjbifieiaa.PE
open Go.RowKit Go.Proofs.YtpplohjbifieiaaW.PrintWords Go.Proofs.YtpplohjbifieiaaW.PrintLast Go.Proofs.YtpplohjbifieiaaW.PrintMore
attribute [local go_sem] max2_int min2_int max_two min_two max_three min_three max_four min_four   -- for this text's walks alone
set_option linter.unusedVariables false
set_option linter.unusedSimpArgs false

/-! ### spec_l09Is: function 43 -/
mutual
def spec_l09Is.j0 : Nat → List (S40) → Int → Bool → Option (Bool)
 | 0,_,_,_ => none
 | k + 1,x0,x3,x16 => if x16 = true then (some false) else (spec_l09Is.l0 k x0 x3 0 0)
def spec_l09Is.l0 : Nat → List (S40) → Int → Int → Int → Option (Bool)
 | 0,_,_,_,_ => none
 | k + 1,x0,x3,x4,x5 => if x5 < x3 then (if 0 ≤ x5 then (if x5 < (x0.length : Int) then (if x3 = 0 then (none) else (if 0 ≤ (Int.tmod (wrap64 (x5 + 1)) x3) then (if (Int.tmod (wrap64 (x5 + 1)) x3) < (x0.length : Int) then (if 0 ≤ (Int.tmod (wrap64 (x5 + 2)) x3) then (if (Int.tmod (wrap64 (x5 + 2)) x3) < (x0.length : Int) then ((spec_l01In.f ((rd_T40 x0 x5).f0) (-1000) 1000).bind fun t143 => (if t143 = true then ((spec_l01In.f ((rd_T40 x0 x5).f1) (-1000) 1000).bind fun t144 => (spec_l09Is.j2 k x0 x3 x4 x5 (!t144) ((rd_T40 x0 x5).f0) ((rd_T40 x0 x5).f1) ((rd_T40 x0 (Int.tmod (wrap64 (x5 + 1)) x3)).f0) ((rd_T40 x0 (Int.tmod (wrap64 (x5 + 1)) x3)).f1) ((rd_T40 x0 (Int.tmod (wrap64 (x5 + 2)) x3)).f0) ((rd_T40 x0 (Int.tmod (wrap64 (x5 + 2)) x3)).f1))) else (spec_l09Is.j2 k x0 x3 x4 x5 true ((rd_T40 x0 x5).f0) ((rd_T40 x0 x5).f1) ((rd_T40 x0 (Int.tmod (wrap64 (x5 + 1)) x3)).f0) ((rd_T40 x0 (Int.tmod (wrap64 (x5 + 1)) x3)).f1) ((rd_T40 x0 (Int.tmod (wrap64 (x5 + 2)) x3)).f0) ((rd_T40 x0 (Int.tmod (wrap64 (x5 + 2)) x3)).f1)))) else (none)) else (none)) else (none)) else (none))) else (none)) else (none)) else (some (x4 == 1))
def spec_l09Is.j2 : Nat → List (S40) → Int → Int → Int → Bool → Int → Int → Int → Int → Int → Int → Option (Bool)
 | 0,_,_,_,_,_,_,_,_,_,_,_ => none
 | k + 1,x0,x3,x4,x5,x49,x141000,x141001,x142000,x142001,x143000,x143001 => if x49 = true then (some false) else ((spec_l01Is.f x142000 x142001).bind fun t145 => (if t145 = true then ((spec_l01Is.f x143000 x143001).bind fun t146 => (if t146 = true then ((spec_l09Side.f x141000 x141001 x142000 x142001 x143000 x143001).bind fun t147 => (spec_l09Is.j3 k x0 x3 x4 x5 (decide (t147 ≤ 0)) x141000 x141001 x142000 x142001 x143000 x143001)) else (spec_l09Is.j3 k x0 x3 x4 x5 true x141000 x141001 x142000 x142001 x143000 x143001))) else (spec_l09Is.j3 k x0 x3 x4 x5 true x141000 x141001 x142000 x142001 x143000 x143001)))
def spec_l09Is.j3 : Nat → List (S40) → Int → Int → Int → Bool → Int → Int → Int → Int → Int → Int → Option (Bool)
 | 0,_,_,_,_,_,_,_,_,_,_,_ => none
 | k + 1,x0,x3,x4,x5,x64,x141000,x141001,x142000,x142001,x143000,x143001 => if x64 = true then (some false) else ((spec_l01Plus.f x142000 x142001 x141000 x141001 (-1)).bind fun bt148 => ((spec_l09Half.f k bt148.1 bt148.2).bind fun t150 => (if t150 = 1 then ((spec_l01Plus.f x143000 x143001 x142000 x142001 (-1)).bind fun bt151 => ((spec_l09Half.f k bt151.1 bt151.2).bind fun t153 => (if t153 = 0 then (spec_l09Is.l0 k x0 x3 (wrap64 (x4 + 1)) (wrap64 (x5 + 1))) else (spec_l09Is.l0 k x0 x3 x4 (wrap64 (x5 + 1)))))) else (spec_l09Is.l0 k x0 x3 x4 (wrap64 (x5 + 1))))))
end
def spec_l09Is.f (k : Nat) (l0 : List (S40)) : Option (Bool) := if (l0.length : Int) < 3 then (spec_l09Is.j0 k l0 (l0.length : Int) true) else (spec_l09Is.j0 k l0 (l0.length : Int) (decide ((l0.length : Int) > 12)))
theorem spec_l09Is.mono_l : ∀ k,(∀ y0 y1 y2,LeO (spec_l09Is.j0 k y0 y1 y2) (spec_l09Is.j0 (k + 1) y0 y1 y2)) ∧ (∀ y0 y1 y2 y3,LeO (spec_l09Is.l0 k y0 y1 y2 y3) (spec_l09Is.l0 (k + 1) y0 y1 y2 y3)) ∧ (∀ y0 y1 y2 y3 y4 y5 y6 y7 y8 y9 y10,LeO (spec_l09Is.j2 k y0 y1 y2 y3 y4 y5 y6 y7 y8 y9 y10) (spec_l09Is.j2 (k + 1) y0 y1 y2 y3 y4 y5 y6 y7 y8 y9 y10)) ∧ (∀ y0 y1 y2 y3 y4 y5 y6 y7 y8 y9 y10,LeO (spec_l09Is.j3 k y0 y1 y2 y3 y4 y5 y6 y7 y8 y9 y10) (spec_l09Is.j3 (k + 1) y0 y1 y2 y3 y4 y5 y6 y7 y8 y9 y10))
 | 0 => ⟨fun _ _ _ r h => (by rw [spec_l09Is.j0] at h; cases h),fun _ _ _ _ r h => (by rw [spec_l09Is.l0] at h; cases h),fun _ _ _ _ _ _ _ _ _ _ _ r h => (by rw [spec_l09Is.j2] at h; cases h),fun _ _ _ _ _ _ _ _ _ _ _ r h => (by rw [spec_l09Is.j3] at h; cases h)⟩
 | k + 1 => by
  obtain ⟨ih0,ih1,ih2,ih3⟩ := spec_l09Is.mono_l k
  refine ⟨?_,?_,?_,?_⟩
  ·intro y0 y1 y2
   unfold spec_l09Is.j0
   repeat' first
   | (with_reducible exact ih0 _ _ _)
   | (with_reducible exact ih1 _ _ _ _)
   | (with_reducible exact ih2 _ _ _ _ _ _ _ _ _ _ _)
   | (with_reducible exact ih3 _ _ _ _ _ _ _ _ _ _ _)
   | (with_reducible exact spec_l09Half.mono _ _ _)
   | (with_reducible exact LeO.refl _)
   | (with_reducible exact LeO.none _)
   | (with_reducible refine LeO.ite ?_ ?_)
   | (with_reducible refine LeO.bind ?_ (fun _ => ?_))
   | exact ih0 _ _ _
   | exact ih1 _ _ _ _
   | exact ih2 _ _ _ _ _ _ _ _ _ _ _
   | exact ih3 _ _ _ _ _ _ _ _ _ _ _
   | exact spec_l09Half.mono _ _ _
   | exact LeO.none _
   | refine LeO.ite ?_ ?_
   | refine LeO.bind ?_ (fun _ => ?_)
  ·intro y0 y1 y2 y3
   unfold spec_l09Is.l0
   repeat' first
   | (with_reducible exact ih0 _ _ _)
   | (with_reducible exact ih1 _ _ _ _)
   | (with_reducible exact ih2 _ _ _ _ _ _ _ _ _ _ _)
   | (with_reducible exact ih3 _ _ _ _ _ _ _ _ _ _ _)
   | (with_reducible exact spec_l09Half.mono _ _ _)
   | (with_reducible exact LeO.refl _)
   | (with_reducible exact LeO.none _)
   | (with_reducible refine LeO.ite ?_ ?_)
   | (with_reducible refine LeO.bind ?_ (fun _ => ?_))
   | exact ih0 _ _ _
   | exact ih1 _ _ _ _
   | exact ih2 _ _ _ _ _ _ _ _ _ _ _
   | exact ih3 _ _ _ _ _ _ _ _ _ _ _
   | exact spec_l09Half.mono _ _ _
   | exact LeO.none _
   | refine LeO.ite ?_ ?_
   | refine LeO.bind ?_ (fun _ => ?_)
  ·intro y0 y1 y2 y3 y4 y5 y6 y7 y8 y9 y10
   unfold spec_l09Is.j2
   repeat' first
   | (with_reducible exact ih0 _ _ _)
   | (with_reducible exact ih1 _ _ _ _)
   | (with_reducible exact ih2 _ _ _ _ _ _ _ _ _ _ _)
   | (with_reducible exact ih3 _ _ _ _ _ _ _ _ _ _ _)
   | (with_reducible exact spec_l09Half.mono _ _ _)
   | (with_reducible exact LeO.refl _)
   | (with_reducible exact LeO.none _)
   | (with_reducible refine LeO.ite ?_ ?_)
   | (with_reducible refine LeO.bind ?_ (fun _ => ?_))
   | exact ih0 _ _ _
   | exact ih1 _ _ _ _
   | exact ih2 _ _ _ _ _ _ _ _ _ _ _
   | exact ih3 _ _ _ _ _ _ _ _ _ _ _
   | exact spec_l09Half.mono _ _ _
   | exact LeO.none _
   | refine LeO.ite ?_ ?_
   | refine LeO.bind ?_ (fun _ => ?_)
  ·intro y0 y1 y2 y3 y4 y5 y6 y7 y8 y9 y10
   unfold spec_l09Is.j3
   repeat' first
   | (with_reducible exact ih0 _ _ _)
   | (with_reducible exact ih1 _ _ _ _)
   | (with_reducible exact ih2 _ _ _ _ _ _ _ _ _ _ _)
   | (with_reducible exact ih3 _ _ _ _ _ _ _ _ _ _ _)
   | (with_reducible exact spec_l09Half.mono _ _ _)
   | (with_reducible exact LeO.refl _)
   | (with_reducible exact LeO.none _)
   | (with_reducible refine LeO.ite ?_ ?_)
   | (with_reducible refine LeO.bind ?_ (fun _ => ?_))
   | exact ih0 _ _ _
   | exact ih1 _ _ _ _
   | exact ih2 _ _ _ _ _ _ _ _ _ _ _
   | exact ih3 _ _ _ _ _ _ _ _ _ _ _
   | exact spec_l09Half.mono _ _ _
   | exact LeO.none _
   | refine LeO.ite ?_ ?_
   | refine LeO.bind ?_ (fun _ => ?_)
theorem spec_l09Is.mono : ∀ a0 k,LeO (spec_l09Is.f k a0) (spec_l09Is.f (k + 1) a0) := by
 intro a0 k
 obtain ⟨ih0,ih1,ih2,ih3⟩ := spec_l09Is.mono_l k
 unfold spec_l09Is.f
 repeat' first
   | (with_reducible exact ih0 _ _ _)
   | (with_reducible exact ih1 _ _ _ _)
   | (with_reducible exact ih2 _ _ _ _ _ _ _ _ _ _ _)
   | (with_reducible exact ih3 _ _ _ _ _ _ _ _ _ _ _)
   | (with_reducible exact spec_l09Half.mono _ _ _)
   | (with_reducible exact LeO.refl _)
   | (with_reducible exact LeO.none _)
   | (with_reducible refine LeO.ite ?_ ?_)
   | (with_reducible refine LeO.bind ?_ (fun _ => ?_))
   | exact ih0 _ _ _
   | exact ih1 _ _ _ _
   | exact ih2 _ _ _ _ _ _ _ _ _ _ _
   | exact ih3 _ _ _ _ _ _ _ _ _ _ _
   | exact spec_l09Half.mono _ _ _
   | exact LeO.none _
   | refine LeO.ite ?_ ?_
   | refine LeO.bind ?_ (fun _ => ?_)
def spec_l09Is.T8 : Bool × List (List Nat × List Nat) := (true,[([],[]),([],[]),([0,1],[0,1]),([2],[2]),([],[]),([],[]),([5],[5]),([],[]),([6,7],[6,7]),([4,8],[4,8]),([9],[9]),([],[]),([],[]),([12],[12]),([],[]),([13,14],[13,14]),([11,15],[11,15]),([16],[16]),([],[]),([],[]),([],[]),([18,3,0,1,2,3,18,19,20],[3,18]),([19,10,21,0,1,2,3,4,5,6,7,8,9,10,18,19,20,21],[10,19]),([20,17,22,0,1,2,3,4,5,6,7,8,9,10,11,12,13,14,15,16,17,18,19,20,21,22],[17,20])])
def spec_l09Is.B8 : List Nat := [0,0,3,7,0,0,32,0,224,496,1008,0,0,4096,0,28672,63488,129024,0,0,0,1835023,3934207,8388607]
theorem spec_l09Is.tab8 : rtab .any (opsOf Try.f43 8) = spec_l09Is.T8 := by kernel_rfl
theorem spec_l09Is.bits8 : waitsOk spec_l09Is.T8.2 spec_l09Is.B8 = true := by kernel_rfl
set_option maxHeartbeats 8000000 in
set_option maxRecDepth 100000 in
theorem spec_l09Is.calls (k : Nat) (A0 : Option Addr) (c0 : Nat) (l0 : List (S40)) (r : Bool) (w : World) (hr0 : Kd.C k40 w A0 l0.length l0) (hc0 : l0.length ≤ c0) (h : spec_l09Is.f k l0 = some r) :
  Calls Try.prog 43 #[.slice A0 l0.length c0] w fun e w' => e = .returned (.bool r) ∧ Below w.heap.size w w' := by
 have hu40 := Try.underlying40
 have HR0 := Aside0.mk hr0
 have HC0 := Aside0.mk hc0
 clear hr0 hc0
 have HB := Aside0.mk (Below.refl w.heap.size w)
 have H : (if (l0.length : Int) < 3 then (spec_l09Is.j0 k l0 (l0.length : Int) true) else (spec_l09Is.j0 k l0 (l0.length : Int) (decide ((l0.length : Int) > 12)))) = some r := h
 clear h
 have HC2 := Aside0.mk H
 clear H
 go_enter Try.func43,Try.ntmps43
 go_upto_region 2 with (fail)
 go_cut [16] (fun v16 wc => ∃ (kq : Nat) (x16_1 : Bool),v16 = .bool x16_1 ∧ Aside0 (spec_l09Is.j0 kq l0 (l0.length : Int) x16_1 = some r) ∧ Aside0 (kq ≤ k) ∧ Aside0 (Below w.heap.size w wc))
 case first =>
  have H := HC2.out
  clear HC2
  by_cases c3 : (l0.length : Int) < 3
  ·rw [if_pos c3] at H
   have c3b0 : decide ((l0.length : Int) < 3) = true := decide_eq_true c3
   have c3b1 : decide (l0.length < 3) = true := decide_eq_true (by omega)
   clear c3
   (first | rw [c3b0] | (simp only [i64_w,i32_w]; rw [c3b0]) | skip)
   have H' := Aside0.mk H
   clear H
   go_wp2
   go_meet
   case rel => exact ⟨_,(true),(by first | rfl | (simp; done) | (simp [*]; done)),H',⟨by first | omega | exact Nat.le_refl _⟩,⟨by repeat (first | (with_reducible first | exact HB.out | apply below_alloc | apply pw_below_drewN | apply below_drew1) | exact HB.out)⟩⟩
  ·rw [if_neg c3] at H
   have c3b0 : decide ((l0.length : Int) < 3) = false := decide_eq_false c3
   have c3b1 : decide (l0.length < 3) = false := decide_eq_false (by omega)
   clear c3
   (first | rw [c3b0] | (simp only [i64_w,i32_w]; rw [c3b0]) | skip)
   have H' := Aside0.mk H
   clear H
   go_wp2
   go_meet
   case rel => exact ⟨_,(decide ((l0.length : Int) > 12)),(by first | rfl | (simp; done) | (simp [*]; done)),H',⟨by first | omega | exact Nat.le_refl _⟩,⟨by repeat (first | (with_reducible first | exact HB.out | apply below_alloc | apply pw_below_drewN | apply below_drew1) | exact HB.out)⟩⟩
 case rest =>
  clear HC2
  try clear p2
  try clear c3
  try clear c3b0
  try clear c3b1
  obtain ⟨kq,x16_1,rfl,HA,HJ1,HB⟩ := hcut
  cases kq with
  | zero => exact absurd HA.out (by rw [spec_l09Is.j0]; exact fun h_ => by cases h_)
  | succ kj1 =>
   have H := HA.out
   clear HA
   simp only [spec_l09Is.j0] at H
   by_cases c4 : x16_1 = true
   ·subst c4
    have H1 : (some false) = some r := by rw [if_pos rfl] at H; exact H
    clear H
    have H := H1
    clear H1
    obtain rfl := Option.some.inj H
    go_wp2
    go_ret
    exact ⟨by first | rfl | (simp [errW_none,errW_some] <;> rfl) | (simp [*,errW_none,errW_some] <;> rfl),by repeat (first | (with_reducible first | exact HB.out | apply below_alloc | apply pw_below_drewN | apply below_drew1) | exact HB.out)⟩
   ·replace c4 := Bool.eq_false_iff.mpr c4
    subst c4
    have H1 : (spec_l09Is.l0 kj1 l0 (l0.length : Int) 0 0) = some r := by rw [if_neg (show ¬ (false = true) by decide)] at H; exact H
    clear H
    have H := H1
    clear H1
    have H' := Aside0.mk H
    clear H
    go_wp2
    go_loopg [4,5] kj1 (fun kq v4 v5 w' => ∃ (x4_2 : Int) (x5_2 : Int),v4 = .int .i64 x4_2 ∧ v5 = .int .i64 x5_2 ∧ Aside0 (spec_l09Is.l0 kq l0 (l0.length : Int) x4_2 x5_2 = some r) ∧ Aside0 (kq ≤ kj1) ∧ Aside0 (Below w.heap.size w w'))
    case atStart => exact ⟨(0),(0),(by first | rfl | (simp; done) | (simp [*]; done)),(by first | rfl | (simp; done) | (simp [*]; done)),H',⟨Nat.le_refl _⟩,⟨by repeat (first | (with_reducible first | exact HB.out | apply below_alloc | apply pw_below_drewN | apply below_drew1) | exact HB.out)⟩⟩
    case round =>
     clear H'
     try clear p2
     try clear c3
     try clear c3b0
     try clear c3b1
     try clear c4
     try clear p2
     obtain ⟨x4_2,x5_2,rfl,rfl,HA,HK2,HB⟩ := hrel
     cases gk with
     | zero => exact absurd HA.out (by rw [spec_l09Is.l0]; exact fun h_ => by cases h_)
     | succ k2 =>
      have H := HA.out
      clear HA
      simp only [spec_l09Is.l0] at H
      by_cases c5 : x5_2 < (l0.length : Int)
      ·rw [if_pos c5] at H
       have c5b0 : decide (x5_2 < (l0.length : Int)) = true := decide_eq_true c5
       clear c5
       by_cases c6 : 0 ≤ x5_2
       ·rw [if_pos c6] at H
        have c6b0 : decide (0 ≤ x5_2) = true := decide_eq_true c6
        clear c6
        by_cases c7 : x5_2 < (l0.length : Int)
        ·rw [if_pos c7] at H
         have c7b0 : decide (x5_2 < (l0.length : Int)) = true := decide_eq_true c7
         clear c7
         by_cases c8 : (l0.length : Int) = 0
         ·rw [if_pos c8] at H
          exact absurd H (by simp)
         ·rw [if_neg c8] at H
          have c8b0 : ((l0.length : Int) == 0) = false := beq_eq_false_iff_ne.mpr c8
          have c8b1 : ((l0.length : Int) != 0) = true := bne_iff_ne.mpr c8
          have c8b2 : ¬ (l0 = []) := fun h_ => c8 (by rw [h_]; rfl)
          obtain ⟨ji9,hji9⟩ : ∃ j_ : Int,(Int.tmod (wrap64 (x5_2 + 1)) (l0.length : Int)) = j_ := ⟨_,rfl⟩
          replace H : (if 0 ≤ (ji9) then (if (ji9) < (l0.length : Int) then (if 0 ≤ (Int.tmod (wrap64 (x5_2 + 2)) (l0.length : Int)) then (if (Int.tmod (wrap64 (x5_2 + 2)) (l0.length : Int)) < (l0.length : Int) then ((spec_l01In.f ((rd_T40 l0 x5_2).f0) (-1000) 1000).bind fun t143 => (if t143 = true then ((spec_l01In.f ((rd_T40 l0 x5_2).f1) (-1000) 1000).bind fun t144 => (spec_l09Is.j2 k2 l0 (l0.length : Int) x4_2 x5_2 (!t144) ((rd_T40 l0 x5_2).f0) ((rd_T40 l0 x5_2).f1) ((rd_T40 l0 (ji9)).f0) ((rd_T40 l0 (ji9)).f1) ((rd_T40 l0 (Int.tmod (wrap64 (x5_2 + 2)) (l0.length : Int))).f0) ((rd_T40 l0 (Int.tmod (wrap64 (x5_2 + 2)) (l0.length : Int))).f1))) else (spec_l09Is.j2 k2 l0 (l0.length : Int) x4_2 x5_2 true ((rd_T40 l0 x5_2).f0) ((rd_T40 l0 x5_2).f1) ((rd_T40 l0 (ji9)).f0) ((rd_T40 l0 (ji9)).f1) ((rd_T40 l0 (Int.tmod (wrap64 (x5_2 + 2)) (l0.length : Int))).f0) ((rd_T40 l0 (Int.tmod (wrap64 (x5_2 + 2)) (l0.length : Int))).f1)))) else (none)) else (none)) else (none)) else (none)) = some r := by first | (rw [hji9] at H; exact H) | (simp only [hji9] at H ⊢; exact H)
          by_cases c10 : 0 ≤ (ji9)
          ·rw [if_pos c10] at H
           have c10b0 : decide (0 ≤ (ji9)) = true := decide_eq_true c10
           clear c10
           by_cases c11 : (ji9) < (l0.length : Int)
           ·rw [if_pos c11] at H
            have c11b0 : decide ((ji9) < (l0.length : Int)) = true := decide_eq_true c11
            clear c11
            obtain ⟨ji12,hji12⟩ : ∃ j_ : Int,(Int.tmod (wrap64 (x5_2 + 2)) (l0.length : Int)) = j_ := ⟨_,rfl⟩
            replace H : (if 0 ≤ (ji12) then (if (ji12) < (l0.length : Int) then ((spec_l01In.f ((rd_T40 l0 x5_2).f0) (-1000) 1000).bind fun t143 => (if t143 = true then ((spec_l01In.f ((rd_T40 l0 x5_2).f1) (-1000) 1000).bind fun t144 => (spec_l09Is.j2 k2 l0 (l0.length : Int) x4_2 x5_2 (!t144) ((rd_T40 l0 x5_2).f0) ((rd_T40 l0 x5_2).f1) ((rd_T40 l0 (ji9)).f0) ((rd_T40 l0 (ji9)).f1) ((rd_T40 l0 (ji12)).f0) ((rd_T40 l0 (ji12)).f1))) else (spec_l09Is.j2 k2 l0 (l0.length : Int) x4_2 x5_2 true ((rd_T40 l0 x5_2).f0) ((rd_T40 l0 x5_2).f1) ((rd_T40 l0 (ji9)).f0) ((rd_T40 l0 (ji9)).f1) ((rd_T40 l0 (ji12)).f0) ((rd_T40 l0 (ji12)).f1)))) else (none)) else (none)) = some r := by first | (rw [hji12] at H; exact H) | (simp only [hji12] at H ⊢; exact H)
            by_cases c13 : 0 ≤ (ji12)
            ·rw [if_pos c13] at H
             have c13b0 : decide (0 ≤ (ji12)) = true := decide_eq_true c13
             clear c13
             by_cases c14 : (ji12) < (l0.length : Int)
             ·rw [if_pos c14] at H
              have c14b0 : decide ((ji12) < (l0.length : Int)) = true := decide_eq_true c14
              clear c14
              have HC15 := Aside0.mk H
              clear H
              try go_wp2
              have n0_ := Aside0.mk (below_drew1 HB.out)
              clear HB
              have HB := n0_
              clear n0_
              have p137 : 0 ≤ (x5_2 : Int) := of_decide_eq_true (by first | (with_reducible assumption) | assumption)
              have q137 : x5_2 < (l0.length : Int) := of_decide_eq_true (by first | (with_reducible assumption) | assumption)
              obtain ⟨ad137,e137,hx137_0,hx137_1⟩ := at_T40 HR0.out x5_2 p137 q137
              have hw137_1 := hx137_1
              have hw137_0 := hx137_0
              cases e137
              replace hx137_0 := (HB.out.cell (World.block_lt_of_cell? _ _ hx137_0)).trans hx137_0
              replace hx137_1 := (HB.out.cell (World.block_lt_of_cell? _ _ hx137_1)).trans hx137_1
              replace p137 := eq_true p137
              replace q137 := eq_true q137
              have p138 : 0 ≤ ((ji9) : Int) := of_decide_eq_true (by first | (with_reducible assumption) | assumption)
              have q138 : (ji9) < (l0.length : Int) := of_decide_eq_true (by first | (with_reducible assumption) | assumption)
              obtain ⟨ad138,e138,hx138_0,hx138_1⟩ := at_T40 HR0.out (ji9) p138 q138
              have hw138_1 := hx138_1
              have hw138_0 := hx138_0
              obtain rfl : ad137 = ad138 := (by injection e138)
              replace hx138_0 := (HB.out.cell (World.block_lt_of_cell? _ _ hx138_0)).trans hx138_0
              replace hx138_1 := (HB.out.cell (World.block_lt_of_cell? _ _ hx138_1)).trans hx138_1
              replace p138 := eq_true p138
              replace q138 := eq_true q138
              have p139 : 0 ≤ ((ji12) : Int) := of_decide_eq_true (by first | (with_reducible assumption) | assumption)
              have q139 : (ji12) < (l0.length : Int) := of_decide_eq_true (by first | (with_reducible assumption) | assumption)
              obtain ⟨ad139,e139,hx139_0,hx139_1⟩ := at_T40 HR0.out (ji12) p139 q139
              have hw139_1 := hx139_1
              have hw139_0 := hx139_0
              obtain rfl : ad137 = ad139 := (by injection e139)
              replace hx139_0 := (HB.out.cell (World.block_lt_of_cell? _ _ hx139_0)).trans hx139_0
              replace hx139_1 := (HB.out.cell (World.block_lt_of_cell? _ _ hx139_1)).trans hx139_1
              replace p139 := eq_true p139
              replace q139 := eq_true q139
              refine start_ (n := 24) (S := fun w' => w'.cell? (ad137.add ((x5_2).toNat * 2)) = some (.int .i64 ((rd_T40 l0 x5_2).f0)) ∧ w'.cell? ⟨(ad137.add ((x5_2).toNat * 2)).block,(ad137.add ((x5_2).toNat * 2)).off + 1,none⟩ = some (.int .i64 ((rd_T40 l0 x5_2).f1)) ∧ w'.cell? (ad137.add (((ji9)).toNat * 2)) = some (.int .i64 ((rd_T40 l0 (ji9)).f0)) ∧ w'.cell? ⟨(ad137.add (((ji9)).toNat * 2)).block,(ad137.add (((ji9)).toNat * 2)).off + 1,none⟩ = some (.int .i64 ((rd_T40 l0 (ji9)).f1)) ∧ w'.cell? (ad137.add (((ji12)).toNat * 2)) = some (.int .i64 ((rd_T40 l0 (ji12)).f0)) ∧ w'.cell? ⟨(ad137.add (((ji12)).toNat * 2)).block,(ad137.add (((ji12)).toNat * 2)).off + 1,none⟩ = some (.int .i64 ((rd_T40 l0 (ji12)).f1))) (ds := []) #[false,false,false,false,false,false,false,false,false,false,false,false,false,false,false,false,false,false,false,false,false,false,false,false] (by kernel_rfl) rfl rfl ⟨((HB.out.cell (World.block_lt_of_cell? _ _ hw137_0)).trans hw137_0),((HB.out.cell (World.block_lt_of_cell? _ _ hw137_1)).trans hw137_1),((HB.out.cell (World.block_lt_of_cell? _ _ hw138_0)).trans hw138_0),((HB.out.cell (World.block_lt_of_cell? _ _ hw138_1)).trans hw138_1),((HB.out.cell (World.block_lt_of_cell? _ _ hw139_0)).trans hw139_0),((HB.out.cell (World.block_lt_of_cell? _ _ hw139_1)).trans hw139_1)⟩ (fun hHeld => ?_); refine with_tabW spec_l09Is.tab8 spec_l09Is.bits8 (fun HT_ HW_ => ?_)
              generalize wr.drew = w16 at HB hx137_0 hx137_1 hx138_0 hx138_1 hx139_0 hx139_1 hHeld ⊢
              refine pure_ (i := 0) (N := some 22) (v := ?_) (a' := ?_) #[true,false,false,false,false,false,false,false,false,false,false,false,false,false,false,false,false,false,false,false,false,false,false,false] rfl rfl (any_of HT_.out (by kernel_rfl)) (fun _ _ _ h => h) (Or.inl ⟨by rfl,?_⟩) ?_ ?_
              rotate_left
              ·intro w'
               go_simp
               with_reducible rfl
              rotate_left
              ·simp only [Act.put,List.setIfInBounds_toArray,List.set_cons_zero,List.set_cons_succ,i64_w,i32_w]
               rfl
              refine pure_ (i := 1) (N := some 23) (v := ?_) (a' := ?_) #[true,true,false,false,false,false,false,false,false,false,false,false,false,false,false,false,false,false,false,false,false,false,false,false] rfl rfl (any_of HT_.out (by kernel_rfl)) (fun _ _ _ h => h) (Or.inl ⟨by rfl,?_⟩) ?_ ?_
              rotate_left
              ·intro w'
               go_simp
               with_reducible rfl
              rotate_left
              ·simp only [Act.put,List.setIfInBounds_toArray,List.set_cons_zero,List.set_cons_succ,i64_w,i32_w]
               rfl
              refine pure_ (i := 2) (N := some 24) (v := ?_) (a' := ?_) #[true,true,true,false,false,false,false,false,false,false,false,false,false,false,false,false,false,false,false,false,false,false,false,false] rfl rfl (any_of HT_.out (by kernel_rfl)) (fun _ _ _ h => h) (Or.inl ⟨by rfl,?_⟩) ?_ ?_
              rotate_left
              ·intro w'
               go_simp
               with_reducible rfl
              rotate_left
              ·simp only [Act.put,List.setIfInBounds_toArray,List.set_cons_zero,List.set_cons_succ,i64_w,i32_w]
               rfl
              refine pure_ (i := 4) (N := some 26) (v := ?_) (a' := ?_) #[true,true,true,false,true,false,false,false,false,false,false,false,false,false,false,false,false,false,false,false,false,false,false,false] rfl rfl (any_of HT_.out (by kernel_rfl)) (fun _ _ _ h => h) (Or.inl ⟨by rfl,?_⟩) ?_ ?_
              rotate_left
              ·intro w'
               go_simp
               with_reducible rfl
              rotate_left
              ·simp only [Act.put,List.setIfInBounds_toArray,List.set_cons_zero,List.set_cons_succ,i64_w,i32_w]
               rfl
              refine pure_ (i := 5) (N := some 27) (v := ?_) (a' := ?_) #[true,true,true,false,true,true,false,false,false,false,false,false,false,false,false,false,false,false,false,false,false,false,false,false] rfl rfl (any_of HT_.out (by kernel_rfl)) (fun _ _ _ h => h) (Or.inl ⟨by rfl,?_⟩) ?_ ?_
              rotate_left
              ·intro w'
               go_simp
               with_reducible rfl
              rotate_left
              ·simp only [Act.put,List.setIfInBounds_toArray,List.set_cons_zero,List.set_cons_succ,i64_w,i32_w]
               rfl
              refine pure_ (i := 6) (N := some 28) (v := ?_) (a' := ?_) #[true,true,true,false,true,true,true,false,false,false,false,false,false,false,false,false,false,false,false,false,false,false,false,false] rfl rfl (any_of HT_.out (by kernel_rfl)) (fun _ _ _ h => h) (Or.inl ⟨by rfl,?_⟩) ?_ ?_
              rotate_left
              ·intro w'
               go_simp
               with_reducible rfl
              rotate_left
              ·simp only [Act.put,List.setIfInBounds_toArray,List.set_cons_zero,List.set_cons_succ,i64_w,i32_w]
               rfl
              refine pure_ (i := 7) (N := some 29) (v := ?_) (a' := ?_) #[true,true,true,false,true,true,true,true,false,false,false,false,false,false,false,false,false,false,false,false,false,false,false,false] rfl rfl (any_of HT_.out (by kernel_rfl)) (fun _ _ _ h => h) (Or.inl ⟨by rfl,?_⟩) ?_ ?_
              rotate_left
              ·intro w'
               go_simp
               with_reducible rfl
              rotate_left
              ·simp only [Act.put,List.setIfInBounds_toArray,List.set_cons_zero,List.set_cons_succ,i64_w,i32_w]
               rfl
              refine pure_ (i := 8) (N := some 30) (v := ?_) (a' := ?_) #[true,true,true,false,true,true,true,true,true,false,false,false,false,false,false,false,false,false,false,false,false,false,false,false] rfl rfl (any_of HT_.out (by kernel_rfl)) (fun _ _ _ h => h) (Or.inl ⟨by rfl,?_⟩) ?_ ?_
              rotate_left
              ·intro w'
               go_simp
               with_reducible rfl
              rotate_left
              ·simp only [Act.put,List.setIfInBounds_toArray,List.set_cons_zero,List.set_cons_succ,i64_w,i32_w]
               rfl
              refine pure_ (i := 9) (N := some 31) (v := ?_) (a' := ?_) #[true,true,true,false,true,true,true,true,true,true,false,false,false,false,false,false,false,false,false,false,false,false,false,false] rfl rfl (any_of HT_.out (by kernel_rfl)) (fun _ _ _ h => h) (Or.inl ⟨by rfl,?_⟩) ?_ ?_
              rotate_left
              ·intro w'
               go_simp
               with_reducible rfl
              rotate_left
              ·simp only [Act.put,List.setIfInBounds_toArray,List.set_cons_zero,List.set_cons_succ,i64_w,i32_w]
               rfl
              refine pure_ (i := 11) (N := some 33) (v := ?_) (a' := ?_) #[true,true,true,false,true,true,true,true,true,true,false,true,false,false,false,false,false,false,false,false,false,false,false,false] rfl rfl (any_of HT_.out (by kernel_rfl)) (fun _ _ _ h => h) (Or.inl ⟨by rfl,?_⟩) ?_ ?_
              rotate_left
              ·intro w'
               go_simp
               with_reducible rfl
              rotate_left
              ·simp only [Act.put,List.setIfInBounds_toArray,List.set_cons_zero,List.set_cons_succ,i64_w,i32_w]
               rfl
              refine pure_ (i := 12) (N := some 34) (v := ?_) (a' := ?_) #[true,true,true,false,true,true,true,true,true,true,false,true,true,false,false,false,false,false,false,false,false,false,false,false] rfl rfl (any_of HT_.out (by kernel_rfl)) (fun _ _ _ h => h) (Or.inl ⟨by rfl,?_⟩) ?_ ?_
              rotate_left
              ·intro w'
               go_simp
               with_reducible rfl
              rotate_left
              ·simp only [Act.put,List.setIfInBounds_toArray,List.set_cons_zero,List.set_cons_succ,i64_w,i32_w]
               rfl
              refine pure_ (i := 13) (N := some 35) (v := ?_) (a' := ?_) #[true,true,true,false,true,true,true,true,true,true,false,true,true,true,false,false,false,false,false,false,false,false,false,false] rfl rfl (any_of HT_.out (by kernel_rfl)) (fun _ _ _ h => h) (Or.inl ⟨by rfl,?_⟩) ?_ ?_
              rotate_left
              ·intro w'
               go_simp
               with_reducible rfl
              rotate_left
              ·simp only [Act.put,List.setIfInBounds_toArray,List.set_cons_zero,List.set_cons_succ,i64_w,i32_w]
               rfl
              refine pure_ (i := 14) (N := some 36) (v := ?_) (a' := ?_) #[true,true,true,false,true,true,true,true,true,true,false,true,true,true,true,false,false,false,false,false,false,false,false,false] rfl rfl (any_of HT_.out (by kernel_rfl)) (fun _ _ _ h => h) (Or.inl ⟨by rfl,?_⟩) ?_ ?_
              rotate_left
              ·intro w'
               go_simp
               with_reducible rfl
              rotate_left
              ·simp only [Act.put,List.setIfInBounds_toArray,List.set_cons_zero,List.set_cons_succ,i64_w,i32_w]
               rfl
              refine pure_ (i := 15) (N := some 37) (v := ?_) (a' := ?_) #[true,true,true,false,true,true,true,true,true,true,false,true,true,true,true,true,false,false,false,false,false,false,false,false] rfl rfl (any_of HT_.out (by kernel_rfl)) (fun _ _ _ h => h) (Or.inl ⟨by rfl,?_⟩) ?_ ?_
              rotate_left
              ·intro w'
               go_simp
               with_reducible rfl
              rotate_left
              ·simp only [Act.put,List.setIfInBounds_toArray,List.set_cons_zero,List.set_cons_succ,i64_w,i32_w]
               rfl
              refine pure_ (i := 16) (N := some 38) (v := ?_) (a' := ?_) #[true,true,true,false,true,true,true,true,true,true,false,true,true,true,true,true,true,false,false,false,false,false,false,false] rfl rfl (any_of HT_.out (by kernel_rfl)) (fun _ _ _ h => h) (Or.inl ⟨by rfl,?_⟩) ?_ ?_
              rotate_left
              ·intro w'
               go_simp
               with_reducible rfl
              rotate_left
              ·simp only [Act.put,List.setIfInBounds_toArray,List.set_cons_zero,List.set_cons_succ,i64_w,i32_w]
               rfl
              refine take_ (i := 3) (N := some 25) (v := ?_) (a' := ?_) #[true,true,true,true,true,true,true,true,true,true,false,true,true,true,true,true,true,false,false,false,false,false,false,false] rfl rfl (take_ofW HT_.out HW_.out (by kernel_rfl)) (fun _ _ _ h => h) (Or.inl ⟨by rfl,?_⟩) hHeld ?_ ?_
              rotate_left
              ·rintro w' ⟨s0,s1,s2,s3,s4,s5⟩
               go_simp
               with_reducible rfl
              rotate_left
              ·simp only [Act.put,List.setIfInBounds_toArray,List.set_cons_zero,List.set_cons_succ,i64_w,i32_w]
               rfl
              refine take_ (i := 10) (N := some 32) (v := ?_) (a' := ?_) #[true,true,true,true,true,true,true,true,true,true,true,true,true,true,true,true,true,false,false,false,false,false,false,false] rfl rfl (take_ofW HT_.out HW_.out (by kernel_rfl)) (fun _ _ _ h => h) (Or.inl ⟨by rfl,?_⟩) hHeld ?_ ?_
              rotate_left
              ·rintro w' ⟨s0,s1,s2,s3,s4,s5⟩
               go_simp
               with_reducible rfl
              rotate_left
              ·simp only [Act.put,List.setIfInBounds_toArray,List.set_cons_zero,List.set_cons_succ,i64_w,i32_w]
               rfl
              refine take_ (i := 17) (N := some 39) (v := ?_) (a' := ?_) #[true,true,true,true,true,true,true,true,true,true,true,true,true,true,true,true,true,true,false,false,false,false,false,false] rfl rfl (take_ofW HT_.out HW_.out (by kernel_rfl)) (fun _ _ _ h => h) (Or.inl ⟨by rfl,?_⟩) hHeld ?_ ?_
              rotate_left
              ·rintro w' ⟨s0,s1,s2,s3,s4,s5⟩
               go_simp
               with_reducible rfl
              rotate_left
              ·simp only [Act.put,List.setIfInBounds_toArray,List.set_cons_zero,List.set_cons_succ,i64_w,i32_w]
               rfl
              refine join_ (σ := Nat × Nat × Nat) 3 #[true,true,true,true,true,true,true,true,true,true,true,true,true,true,true,true,true,true,true,true,true,false,false,false] (fun s_ => [(6,.pointer (some ⟨s_.1,0,none⟩)),(7,.pointer (some ⟨s_.2.1,0,none⟩)),(8,.pointer (some ⟨s_.2.2,0,none⟩))]) (fun s_ w' => (w'.cell? (ad137.add ((x5_2).toNat * 2)) = some (.int .i64 ((rd_T40 l0 x5_2).f0)) ∧ w'.cell? ⟨(ad137.add ((x5_2).toNat * 2)).block,(ad137.add ((x5_2).toNat * 2)).off + 1,none⟩ = some (.int .i64 ((rd_T40 l0 x5_2).f1)) ∧ w'.cell? (ad137.add (((ji9)).toNat * 2)) = some (.int .i64 ((rd_T40 l0 (ji9)).f0)) ∧ w'.cell? ⟨(ad137.add (((ji9)).toNat * 2)).block,(ad137.add (((ji9)).toNat * 2)).off + 1,none⟩ = some (.int .i64 ((rd_T40 l0 (ji9)).f1)) ∧ w'.cell? (ad137.add (((ji12)).toNat * 2)) = some (.int .i64 ((rd_T40 l0 (ji12)).f0)) ∧ w'.cell? ⟨(ad137.add (((ji12)).toNat * 2)).block,(ad137.add (((ji12)).toNat * 2)).off + 1,none⟩ = some (.int .i64 ((rd_T40 l0 (ji12)).f1))) ∧ (w'.heap[s_.1]? = some (.cells #[.int .i64 0,.int .i64 0] 40 (0,0))) ∧ (w'.heap[s_.2.1]? = some (.cells #[.int .i64 0,.int .i64 0] 40 (0,0))) ∧ (w'.heap[s_.2.2]? = some (.cells #[.int .i64 0,.int .i64 0] 40 (0,0))) ∧ (w.heap.size ≤ s_.1) ∧ (w.heap.size ≤ s_.1) ∧ (s_.2.1 ≠ s_.1) ∧ (s_.1 ≠ s_.2.1) ∧ (s_.2.2 ≠ s_.1) ∧ (s_.1 ≠ s_.2.2) ∧ (w.heap.size ≤ s_.2.1) ∧ (w.heap.size ≤ s_.2.1) ∧ (s_.2.2 ≠ s_.2.1) ∧ (s_.2.1 ≠ s_.2.2) ∧ (w.heap.size ≤ s_.2.2) ∧ (w.heap.size ≤ s_.2.2) ∧ (Below w.heap.size w w')) ?_ ?_
              rotate_left
              ·intro hJ18_19_20
               refine join_ (σ := Nat × Nat) 4 #[true,true,true,true,true,true,true,true,true,true,true,true,true,true,true,true,true,true,true,true,false,false,false,false] (fun s_ => [(6,.pointer (some ⟨s_.1,0,none⟩)),(7,.pointer (some ⟨s_.2,0,none⟩))]) (fun s_ w' => (w'.cell? (ad137.add ((x5_2).toNat * 2)) = some (.int .i64 ((rd_T40 l0 x5_2).f0)) ∧ w'.cell? ⟨(ad137.add ((x5_2).toNat * 2)).block,(ad137.add ((x5_2).toNat * 2)).off + 1,none⟩ = some (.int .i64 ((rd_T40 l0 x5_2).f1)) ∧ w'.cell? (ad137.add (((ji9)).toNat * 2)) = some (.int .i64 ((rd_T40 l0 (ji9)).f0)) ∧ w'.cell? ⟨(ad137.add (((ji9)).toNat * 2)).block,(ad137.add (((ji9)).toNat * 2)).off + 1,none⟩ = some (.int .i64 ((rd_T40 l0 (ji9)).f1)) ∧ w'.cell? (ad137.add (((ji12)).toNat * 2)) = some (.int .i64 ((rd_T40 l0 (ji12)).f0)) ∧ w'.cell? ⟨(ad137.add (((ji12)).toNat * 2)).block,(ad137.add (((ji12)).toNat * 2)).off + 1,none⟩ = some (.int .i64 ((rd_T40 l0 (ji12)).f1))) ∧ (w'.heap[s_.1]? = some (.cells #[.int .i64 0,.int .i64 0] 40 (0,0))) ∧ (w'.heap[s_.2]? = some (.cells #[.int .i64 0,.int .i64 0] 40 (0,0))) ∧ (w.heap.size ≤ s_.1) ∧ (w.heap.size ≤ s_.1) ∧ (s_.2 ≠ s_.1) ∧ (s_.1 ≠ s_.2) ∧ (w.heap.size ≤ s_.2) ∧ (w.heap.size ≤ s_.2) ∧ (Below w.heap.size w w')) ?_ ?_
               rotate_left
               ·intro hJ18_19
                refine join_ (σ := Nat × Nat) 4 #[true,true,true,true,true,true,true,true,true,true,true,true,true,true,true,true,true,true,true,false,true,false,false,false] (fun s_ => [(6,.pointer (some ⟨s_.1,0,none⟩)),(8,.pointer (some ⟨s_.2,0,none⟩))]) (fun s_ w' => (w'.cell? (ad137.add ((x5_2).toNat * 2)) = some (.int .i64 ((rd_T40 l0 x5_2).f0)) ∧ w'.cell? ⟨(ad137.add ((x5_2).toNat * 2)).block,(ad137.add ((x5_2).toNat * 2)).off + 1,none⟩ = some (.int .i64 ((rd_T40 l0 x5_2).f1)) ∧ w'.cell? (ad137.add (((ji9)).toNat * 2)) = some (.int .i64 ((rd_T40 l0 (ji9)).f0)) ∧ w'.cell? ⟨(ad137.add (((ji9)).toNat * 2)).block,(ad137.add (((ji9)).toNat * 2)).off + 1,none⟩ = some (.int .i64 ((rd_T40 l0 (ji9)).f1)) ∧ w'.cell? (ad137.add (((ji12)).toNat * 2)) = some (.int .i64 ((rd_T40 l0 (ji12)).f0)) ∧ w'.cell? ⟨(ad137.add (((ji12)).toNat * 2)).block,(ad137.add (((ji12)).toNat * 2)).off + 1,none⟩ = some (.int .i64 ((rd_T40 l0 (ji12)).f1))) ∧ (w'.heap[s_.1]? = some (.cells #[.int .i64 0,.int .i64 0] 40 (0,0))) ∧ (w'.heap[s_.2]? = some (.cells #[.int .i64 0,.int .i64 0] 40 (0,0))) ∧ (w.heap.size ≤ s_.1) ∧ (w.heap.size ≤ s_.1) ∧ (s_.2 ≠ s_.1) ∧ (s_.1 ≠ s_.2) ∧ (w.heap.size ≤ s_.2) ∧ (w.heap.size ≤ s_.2) ∧ (Below w.heap.size w w')) ?_ ?_
                rotate_left
                ·intro hJ18_20
                 refine join_ (σ := Nat × Nat) 4 #[true,true,true,true,true,true,true,true,true,true,true,true,true,true,true,true,true,true,false,true,true,false,false,false] (fun s_ => [(7,.pointer (some ⟨s_.1,0,none⟩)),(8,.pointer (some ⟨s_.2,0,none⟩))]) (fun s_ w' => (w'.cell? (ad137.add ((x5_2).toNat * 2)) = some (.int .i64 ((rd_T40 l0 x5_2).f0)) ∧ w'.cell? ⟨(ad137.add ((x5_2).toNat * 2)).block,(ad137.add ((x5_2).toNat * 2)).off + 1,none⟩ = some (.int .i64 ((rd_T40 l0 x5_2).f1)) ∧ w'.cell? (ad137.add (((ji9)).toNat * 2)) = some (.int .i64 ((rd_T40 l0 (ji9)).f0)) ∧ w'.cell? ⟨(ad137.add (((ji9)).toNat * 2)).block,(ad137.add (((ji9)).toNat * 2)).off + 1,none⟩ = some (.int .i64 ((rd_T40 l0 (ji9)).f1)) ∧ w'.cell? (ad137.add (((ji12)).toNat * 2)) = some (.int .i64 ((rd_T40 l0 (ji12)).f0)) ∧ w'.cell? ⟨(ad137.add (((ji12)).toNat * 2)).block,(ad137.add (((ji12)).toNat * 2)).off + 1,none⟩ = some (.int .i64 ((rd_T40 l0 (ji12)).f1))) ∧ (w'.heap[s_.1]? = some (.cells #[.int .i64 0,.int .i64 0] 40 (0,0))) ∧ (w'.heap[s_.2]? = some (.cells #[.int .i64 0,.int .i64 0] 40 (0,0))) ∧ (w.heap.size ≤ s_.1) ∧ (w.heap.size ≤ s_.1) ∧ (s_.2 ≠ s_.1) ∧ (s_.1 ≠ s_.2) ∧ (w.heap.size ≤ s_.2) ∧ (w.heap.size ≤ s_.2) ∧ (Below w.heap.size w w')) ?_ ?_
                 rotate_left
                 ·intro hJ19_20
                  refine join_ (σ := Nat) 5 #[true,true,true,true,true,true,true,true,true,true,true,true,true,true,true,true,true,true,true,false,false,false,false,false] (fun s_ => [(6,.pointer (some ⟨s_,0,none⟩))]) (fun s_ w' => (w'.cell? (ad137.add ((x5_2).toNat * 2)) = some (.int .i64 ((rd_T40 l0 x5_2).f0)) ∧ w'.cell? ⟨(ad137.add ((x5_2).toNat * 2)).block,(ad137.add ((x5_2).toNat * 2)).off + 1,none⟩ = some (.int .i64 ((rd_T40 l0 x5_2).f1)) ∧ w'.cell? (ad137.add (((ji9)).toNat * 2)) = some (.int .i64 ((rd_T40 l0 (ji9)).f0)) ∧ w'.cell? ⟨(ad137.add (((ji9)).toNat * 2)).block,(ad137.add (((ji9)).toNat * 2)).off + 1,none⟩ = some (.int .i64 ((rd_T40 l0 (ji9)).f1)) ∧ w'.cell? (ad137.add (((ji12)).toNat * 2)) = some (.int .i64 ((rd_T40 l0 (ji12)).f0)) ∧ w'.cell? ⟨(ad137.add (((ji12)).toNat * 2)).block,(ad137.add (((ji12)).toNat * 2)).off + 1,none⟩ = some (.int .i64 ((rd_T40 l0 (ji12)).f1))) ∧ (w'.heap[s_]? = some (.cells #[.int .i64 0,.int .i64 0] 40 (0,0))) ∧ (w.heap.size ≤ s_) ∧ (w.heap.size ≤ s_) ∧ (Below w.heap.size w w')) ?_ ?_
                  rotate_left
                  ·intro hJ18
                   refine join_ (σ := Nat) 5 #[true,true,true,true,true,true,true,true,true,true,true,true,true,true,true,true,true,true,false,true,false,false,false,false] (fun s_ => [(7,.pointer (some ⟨s_,0,none⟩))]) (fun s_ w' => (w'.cell? (ad137.add ((x5_2).toNat * 2)) = some (.int .i64 ((rd_T40 l0 x5_2).f0)) ∧ w'.cell? ⟨(ad137.add ((x5_2).toNat * 2)).block,(ad137.add ((x5_2).toNat * 2)).off + 1,none⟩ = some (.int .i64 ((rd_T40 l0 x5_2).f1)) ∧ w'.cell? (ad137.add (((ji9)).toNat * 2)) = some (.int .i64 ((rd_T40 l0 (ji9)).f0)) ∧ w'.cell? ⟨(ad137.add (((ji9)).toNat * 2)).block,(ad137.add (((ji9)).toNat * 2)).off + 1,none⟩ = some (.int .i64 ((rd_T40 l0 (ji9)).f1)) ∧ w'.cell? (ad137.add (((ji12)).toNat * 2)) = some (.int .i64 ((rd_T40 l0 (ji12)).f0)) ∧ w'.cell? ⟨(ad137.add (((ji12)).toNat * 2)).block,(ad137.add (((ji12)).toNat * 2)).off + 1,none⟩ = some (.int .i64 ((rd_T40 l0 (ji12)).f1))) ∧ (w'.heap[s_]? = some (.cells #[.int .i64 0,.int .i64 0] 40 (0,0))) ∧ (w.heap.size ≤ s_) ∧ (w.heap.size ≤ s_) ∧ (Below w.heap.size w w')) ?_ ?_
                   rotate_left
                   ·intro hJ19
                    refine join_ (σ := Nat) 5 #[true,true,true,true,true,true,true,true,true,true,true,true,true,true,true,true,true,true,false,false,true,false,false,false] (fun s_ => [(8,.pointer (some ⟨s_,0,none⟩))]) (fun s_ w' => (w'.cell? (ad137.add ((x5_2).toNat * 2)) = some (.int .i64 ((rd_T40 l0 x5_2).f0)) ∧ w'.cell? ⟨(ad137.add ((x5_2).toNat * 2)).block,(ad137.add ((x5_2).toNat * 2)).off + 1,none⟩ = some (.int .i64 ((rd_T40 l0 x5_2).f1)) ∧ w'.cell? (ad137.add (((ji9)).toNat * 2)) = some (.int .i64 ((rd_T40 l0 (ji9)).f0)) ∧ w'.cell? ⟨(ad137.add (((ji9)).toNat * 2)).block,(ad137.add (((ji9)).toNat * 2)).off + 1,none⟩ = some (.int .i64 ((rd_T40 l0 (ji9)).f1)) ∧ w'.cell? (ad137.add (((ji12)).toNat * 2)) = some (.int .i64 ((rd_T40 l0 (ji12)).f0)) ∧ w'.cell? ⟨(ad137.add (((ji12)).toNat * 2)).block,(ad137.add (((ji12)).toNat * 2)).off + 1,none⟩ = some (.int .i64 ((rd_T40 l0 (ji12)).f1))) ∧ (w'.heap[s_]? = some (.cells #[.int .i64 0,.int .i64 0] 40 (0,0))) ∧ (w.heap.size ≤ s_) ∧ (w.heap.size ≤ s_) ∧ (Below w.heap.size w w')) ?_ ?_
                    rotate_left
                    ·intro hJ20
                     refine three_ (i := 18) (j := 19) (k := 20) (Ni := some 6) (Nj := some 7) (Nk := some 8) #[true,true,true,true,true,true,true,true,true,true,true,true,true,true,true,true,true,true,true,false,false,false,false,false] #[true,true,true,true,true,true,true,true,true,true,true,true,true,true,true,true,true,true,false,true,false,false,false,false] #[true,true,true,true,true,true,true,true,true,true,true,true,true,true,true,true,true,true,false,false,true,false,false,false] rfl rfl rfl rfl rfl rfl (three_of HT_.out (by kernel_rfl)) (by decide) (by decide) (by decide) (fun K hK => ?_) (fun K hK => ?_) (fun K hK => ?_)
                     ·skip
                      refine box_step ?hg (N := 6) ?hd (cs := #[.int .i64 0,.int .i64 0]) (t := 40) ?hr ?_; (case hd => rfl); (case hg => rfl); (case hr => first | (go_simp; done) | (go_simp; rfl))
                      intro gb140 hg w17 hbox hb
                      have n0_ := Aside0.mk (below_step (by repeat (first | (with_reducible first | exact HB.out | apply below_alloc | apply pw_below_drewN | apply below_drew1) | exact HB.out)) hb)
                      have n1_ := Aside0.mk (hbox)
                      have n2_ := Aside0.mk ((by rw [hg]; exact (below_size (by repeat (first | (with_reducible first | exact HB.out | apply below_alloc | apply pw_below_drewN | apply below_drew1) | exact HB.out))) : w.heap.size ≤ gb140))
                      have n3_ := Aside0.mk ((by rw [hg]; exact (below_size (by repeat (first | (with_reducible first | exact HB.out | apply below_alloc | apply pw_below_drewN | apply below_drew1) | exact HB.out))) : w.heap.size ≤ gb140))
                      clear HB
                      have HB := n0_
                      have BK140 := n1_
                      have GW140 := n2_
                      have GE140 := n3_
                      clear n0_ n1_ n2_ n3_
                      clear hb hbox hg
                      refine hK.out _ _ ⟨((HB.out.cell (World.block_lt_of_cell? _ _ hw137_0)).trans hw137_0),((HB.out.cell (World.block_lt_of_cell? _ _ hw137_1)).trans hw137_1),((HB.out.cell (World.block_lt_of_cell? _ _ hw138_0)).trans hw138_0),((HB.out.cell (World.block_lt_of_cell? _ _ hw138_1)).trans hw138_1),((HB.out.cell (World.block_lt_of_cell? _ _ hw139_0)).trans hw139_0),((HB.out.cell (World.block_lt_of_cell? _ _ hw139_1)).trans hw139_1)⟩ (fun hHeld => ?_)
                      clear hK K
                      refine norm_ (a' := ?_) ?_ ?_
                      rotate_left
                      ·show Act.put _ (some 6) _ = _
                       simp only [Act.put,List.setIfInBounds_toArray,List.set_cons_zero,List.set_cons_succ,i64_w,i32_w]
                       rfl
                      exact norm_ (by first | (simp only [putAll,Act.put,List.setIfInBounds_toArray,List.set_cons_zero,List.set_cons_succ]; done) | (simp only [putAll,Act.put,List.setIfInBounds_toArray,List.set_cons_zero,List.set_cons_succ]; rfl)) (hJ18 (gb140) _ ⟨hHeld,(by (with_reducible repeat (first | refine blk_drewN ?_ _ | refine blk_drew ?_ | refine blk_alloc ?_ _)); exact BK140.out),GW140.out,GE140.out,(by repeat (first | (with_reducible first | exact HB.out | apply below_alloc | apply pw_below_drewN | apply below_drew1 | refine below_set ?_ GE140.out) | exact HB.out))⟩)
                     ·skip
                      refine box_step ?hg (N := 7) ?hd (cs := #[.int .i64 0,.int .i64 0]) (t := 40) ?hr ?_; (case hd => rfl); (case hg => rfl); (case hr => first | (go_simp; done) | (go_simp; rfl))
                      intro gb141 hg w17 hbox hb
                      have n0_ := Aside0.mk (below_step (by repeat (first | (with_reducible first | exact HB.out | apply below_alloc | apply pw_below_drewN | apply below_drew1) | exact HB.out)) hb)
                      have n1_ := Aside0.mk (hbox)
                      have n2_ := Aside0.mk ((by rw [hg]; exact (below_size (by repeat (first | (with_reducible first | exact HB.out | apply below_alloc | apply pw_below_drewN | apply below_drew1) | exact HB.out))) : w.heap.size ≤ gb141))
                      have n3_ := Aside0.mk ((by rw [hg]; exact (below_size (by repeat (first | (with_reducible first | exact HB.out | apply below_alloc | apply pw_below_drewN | apply below_drew1) | exact HB.out))) : w.heap.size ≤ gb141))
                      clear HB
                      have HB := n0_
                      have BK141 := n1_
                      have GW141 := n2_
                      have GE141 := n3_
                      clear n0_ n1_ n2_ n3_
                      clear hb hbox hg
                      refine hK.out _ _ ⟨((HB.out.cell (World.block_lt_of_cell? _ _ hw137_0)).trans hw137_0),((HB.out.cell (World.block_lt_of_cell? _ _ hw137_1)).trans hw137_1),((HB.out.cell (World.block_lt_of_cell? _ _ hw138_0)).trans hw138_0),((HB.out.cell (World.block_lt_of_cell? _ _ hw138_1)).trans hw138_1),((HB.out.cell (World.block_lt_of_cell? _ _ hw139_0)).trans hw139_0),((HB.out.cell (World.block_lt_of_cell? _ _ hw139_1)).trans hw139_1)⟩ (fun hHeld => ?_)
                      clear hK K
                      refine norm_ (a' := ?_) ?_ ?_
                      rotate_left
                      ·show Act.put _ (some 7) _ = _
                       simp only [Act.put,List.setIfInBounds_toArray,List.set_cons_zero,List.set_cons_succ,i64_w,i32_w]
                       rfl
                      exact norm_ (by first | (simp only [putAll,Act.put,List.setIfInBounds_toArray,List.set_cons_zero,List.set_cons_succ]; done) | (simp only [putAll,Act.put,List.setIfInBounds_toArray,List.set_cons_zero,List.set_cons_succ]; rfl)) (hJ19 (gb141) _ ⟨hHeld,(by (with_reducible repeat (first | refine blk_drewN ?_ _ | refine blk_drew ?_ | refine blk_alloc ?_ _)); exact BK141.out),GW141.out,GE141.out,(by repeat (first | (with_reducible first | exact HB.out | apply below_alloc | apply pw_below_drewN | apply below_drew1 | refine below_set ?_ GE141.out) | exact HB.out))⟩)
                     ·skip
                      refine box_step ?hg (N := 8) ?hd (cs := #[.int .i64 0,.int .i64 0]) (t := 40) ?hr ?_; (case hd => rfl); (case hg => rfl); (case hr => first | (go_simp; done) | (go_simp; rfl))
                      intro gb142 hg w17 hbox hb
                      have n0_ := Aside0.mk (below_step (by repeat (first | (with_reducible first | exact HB.out | apply below_alloc | apply pw_below_drewN | apply below_drew1) | exact HB.out)) hb)
                      have n1_ := Aside0.mk (hbox)
                      have n2_ := Aside0.mk ((by rw [hg]; exact (below_size (by repeat (first | (with_reducible first | exact HB.out | apply below_alloc | apply pw_below_drewN | apply below_drew1) | exact HB.out))) : w.heap.size ≤ gb142))
                      have n3_ := Aside0.mk ((by rw [hg]; exact (below_size (by repeat (first | (with_reducible first | exact HB.out | apply below_alloc | apply pw_below_drewN | apply below_drew1) | exact HB.out))) : w.heap.size ≤ gb142))
                      clear HB
                      have HB := n0_
                      have BK142 := n1_
                      have GW142 := n2_
                      have GE142 := n3_
                      clear n0_ n1_ n2_ n3_
                      clear hb hbox hg
                      refine hK.out _ _ ⟨((HB.out.cell (World.block_lt_of_cell? _ _ hw137_0)).trans hw137_0),((HB.out.cell (World.block_lt_of_cell? _ _ hw137_1)).trans hw137_1),((HB.out.cell (World.block_lt_of_cell? _ _ hw138_0)).trans hw138_0),((HB.out.cell (World.block_lt_of_cell? _ _ hw138_1)).trans hw138_1),((HB.out.cell (World.block_lt_of_cell? _ _ hw139_0)).trans hw139_0),((HB.out.cell (World.block_lt_of_cell? _ _ hw139_1)).trans hw139_1)⟩ (fun hHeld => ?_)
                      clear hK K
                      refine norm_ (a' := ?_) ?_ ?_
                      rotate_left
                      ·show Act.put _ (some 8) _ = _
                       simp only [Act.put,List.setIfInBounds_toArray,List.set_cons_zero,List.set_cons_succ,i64_w,i32_w]
                       rfl
                      exact norm_ (by first | (simp only [putAll,Act.put,List.setIfInBounds_toArray,List.set_cons_zero,List.set_cons_succ]; done) | (simp only [putAll,Act.put,List.setIfInBounds_toArray,List.set_cons_zero,List.set_cons_succ]; rfl)) (hJ20 (gb142) _ ⟨hHeld,(by (with_reducible repeat (first | refine blk_drewN ?_ _ | refine blk_drew ?_ | refine blk_alloc ?_ _)); exact BK142.out),GW142.out,GE142.out,(by repeat (first | (with_reducible first | exact HB.out | apply below_alloc | apply pw_below_drewN | apply below_drew1 | refine below_set ?_ GE142.out) | exact HB.out))⟩)
                    ·skip
                     rintro gb142 w18 ⟨hS_,h0_,h1_,h2_,h3_⟩
                     have n0_ : Aside0 (w18.heap[gb142]? = some (.cells #[.int .i64 0,.int .i64 0] 40 (0,0))) := ⟨h0_⟩
                     have n1_ : Aside0 (w.heap.size ≤ gb142) := ⟨h1_⟩
                     have n2_ : Aside0 (w.heap.size ≤ gb142) := ⟨h2_⟩
                     have n3_ : Aside0 (Below w.heap.size w w18) := ⟨h3_⟩
                     clear HB
                     clear h0_ h1_ h2_ h3_
                     have BK142 := n0_
                     have GW142 := n1_
                     have GE142 := n2_
                     have HB := n3_
                     clear n0_ n1_ n2_ n3_
                     have hHeld : w18.cell? (ad137.add ((x5_2).toNat * 2)) = some (.int .i64 ((rd_T40 l0 x5_2).f0)) ∧ w18.cell? ⟨(ad137.add ((x5_2).toNat * 2)).block,(ad137.add ((x5_2).toNat * 2)).off + 1,none⟩ = some (.int .i64 ((rd_T40 l0 x5_2).f1)) ∧ w18.cell? (ad137.add (((ji9)).toNat * 2)) = some (.int .i64 ((rd_T40 l0 (ji9)).f0)) ∧ w18.cell? ⟨(ad137.add (((ji9)).toNat * 2)).block,(ad137.add (((ji9)).toNat * 2)).off + 1,none⟩ = some (.int .i64 ((rd_T40 l0 (ji9)).f1)) ∧ w18.cell? (ad137.add (((ji12)).toNat * 2)) = some (.int .i64 ((rd_T40 l0 (ji12)).f0)) ∧ w18.cell? ⟨(ad137.add (((ji12)).toNat * 2)).block,(ad137.add (((ji12)).toNat * 2)).off + 1,none⟩ = some (.int .i64 ((rd_T40 l0 (ji12)).f1)) := hS_
                     refine norm_ (a' := ?_) ?_ ?_
                     rotate_left
                     ·simp only [putAll,Act.put,List.setIfInBounds_toArray,List.set_cons_zero,List.set_cons_succ]
                      rfl
                     refine two_ (i := 18) (j := 19) (Ni := some 6) (Nj := some 7) #[true,true,true,true,true,true,true,true,true,true,true,true,true,true,true,true,true,true,true,false,true,false,false,false] #[true,true,true,true,true,true,true,true,true,true,true,true,true,true,true,true,true,true,false,true,true,false,false,false] rfl rfl rfl rfl (two_of HT_.out (by kernel_rfl)) (by decide) (by decide) (fun K hK => ?_) (fun K hK => ?_)
                     ·skip
                      refine box_step ?hg (N := 6) ?hd (cs := #[.int .i64 0,.int .i64 0]) (t := 40) ?hr ?_; (case hd => rfl); (case hg => rfl); (case hr => first | (go_simp; done) | (go_simp; rfl))
                      intro gb140 hg w19 hbox hb
                      have n0_ := Aside0.mk (blk_below (g := gb142) (o := .cells #[.int .i64 0,.int .i64 0] 40 (0,0)) (by (with_reducible repeat (first | refine blk_drewN ?_ _ | refine blk_drew ?_ | refine blk_alloc ?_ _)); exact BK142.out) hb)
                      have n1_ := Aside0.mk (below_step (by repeat (first | (with_reducible first | exact HB.out | apply below_alloc | apply pw_below_drewN | apply below_drew1 | refine below_set ?_ GE142.out) | exact HB.out)) hb)
                      have n2_ := Aside0.mk (hbox)
                      have n3_ := Aside0.mk ((by rw [hg]; exact (below_size (by repeat (first | (with_reducible first | exact HB.out | apply below_alloc | apply pw_below_drewN | apply below_drew1 | refine below_set ?_ GE142.out) | exact HB.out))) : w.heap.size ≤ gb140))
                      have n4_ := Aside0.mk ((by rw [hg]; exact (below_size (by repeat (first | (with_reducible first | exact HB.out | apply below_alloc | apply pw_below_drewN | apply below_drew1 | refine below_set ?_ GE142.out) | exact HB.out))) : w.heap.size ≤ gb140))
                      have n5_ := Aside0.mk ((by rw [hg]; exact Nat.ne_of_lt (blk_lt (g := gb142) (o := .cells #[.int .i64 0,.int .i64 0] 40 (0,0)) (by (with_reducible repeat (first | refine blk_drewN ?_ _ | refine blk_drew ?_ | refine blk_alloc ?_ _)); exact BK142.out)) : gb142 ≠ gb140))
                      have n6_ := Aside0.mk ((by rw [hg]; exact Nat.ne_of_gt (blk_lt (g := gb142) (o := .cells #[.int .i64 0,.int .i64 0] 40 (0,0)) (by (with_reducible repeat (first | refine blk_drewN ?_ _ | refine blk_drew ?_ | refine blk_alloc ?_ _)); exact BK142.out)) : gb140 ≠ gb142))
                      clear BK142
                      clear HB
                      have BK142 := n0_
                      have HB := n1_
                      have BK140 := n2_
                      have GW140 := n3_
                      have GE140 := n4_
                      have NB142_140 := n5_
                      have NB140_142 := n6_
                      clear n0_ n1_ n2_ n3_ n4_ n5_ n6_
                      clear hb hbox hg
                      refine hK.out _ _ ⟨((HB.out.cell (World.block_lt_of_cell? _ _ hw137_0)).trans hw137_0),((HB.out.cell (World.block_lt_of_cell? _ _ hw137_1)).trans hw137_1),((HB.out.cell (World.block_lt_of_cell? _ _ hw138_0)).trans hw138_0),((HB.out.cell (World.block_lt_of_cell? _ _ hw138_1)).trans hw138_1),((HB.out.cell (World.block_lt_of_cell? _ _ hw139_0)).trans hw139_0),((HB.out.cell (World.block_lt_of_cell? _ _ hw139_1)).trans hw139_1)⟩ (fun hHeld => ?_)
                      clear hK K
                      refine norm_ (a' := ?_) ?_ ?_
                      rotate_left
                      ·show Act.put _ (some 6) _ = _
                       simp only [Act.put,List.setIfInBounds_toArray,List.set_cons_zero,List.set_cons_succ,i64_w,i32_w]
                       rfl
                      exact norm_ (by first | (simp only [putAll,Act.put,List.setIfInBounds_toArray,List.set_cons_zero,List.set_cons_succ]; done) | (simp only [putAll,Act.put,List.setIfInBounds_toArray,List.set_cons_zero,List.set_cons_succ]; rfl)) (hJ18_20 (gb140,gb142) _ ⟨hHeld,(by (with_reducible repeat (first | refine blk_drewN ?_ _ | refine blk_drew ?_ | refine blk_alloc ?_ _)); exact BK140.out),(by (with_reducible repeat (first | refine blk_drewN ?_ _ | refine blk_drew ?_ | refine blk_alloc ?_ _)); exact BK142.out),GW140.out,GE140.out,NB142_140.out,NB140_142.out,GW142.out,GE142.out,(by repeat (first | (with_reducible first | exact HB.out | apply below_alloc | apply pw_below_drewN | apply below_drew1 | refine below_set ?_ GE142.out | refine below_set ?_ GE140.out) | exact HB.out))⟩)
                     ·skip
                      refine box_step ?hg (N := 7) ?hd (cs := #[.int .i64 0,.int .i64 0]) (t := 40) ?hr ?_; (case hd => rfl); (case hg => rfl); (case hr => first | (go_simp; done) | (go_simp; rfl))
                      intro gb141 hg w19 hbox hb
                      have n0_ := Aside0.mk (blk_below (g := gb142) (o := .cells #[.int .i64 0,.int .i64 0] 40 (0,0)) (by (with_reducible repeat (first | refine blk_drewN ?_ _ | refine blk_drew ?_ | refine blk_alloc ?_ _)); exact BK142.out) hb)
                      have n1_ := Aside0.mk (below_step (by repeat (first | (with_reducible first | exact HB.out | apply below_alloc | apply pw_below_drewN | apply below_drew1 | refine below_set ?_ GE142.out) | exact HB.out)) hb)
                      have n2_ := Aside0.mk (hbox)
                      have n3_ := Aside0.mk ((by rw [hg]; exact (below_size (by repeat (first | (with_reducible first | exact HB.out | apply below_alloc | apply pw_below_drewN | apply below_drew1 | refine below_set ?_ GE142.out) | exact HB.out))) : w.heap.size ≤ gb141))
                      have n4_ := Aside0.mk ((by rw [hg]; exact (below_size (by repeat (first | (with_reducible first | exact HB.out | apply below_alloc | apply pw_below_drewN | apply below_drew1 | refine below_set ?_ GE142.out) | exact HB.out))) : w.heap.size ≤ gb141))
                      have n5_ := Aside0.mk ((by rw [hg]; exact Nat.ne_of_lt (blk_lt (g := gb142) (o := .cells #[.int .i64 0,.int .i64 0] 40 (0,0)) (by (with_reducible repeat (first | refine blk_drewN ?_ _ | refine blk_drew ?_ | refine blk_alloc ?_ _)); exact BK142.out)) : gb142 ≠ gb141))
                      have n6_ := Aside0.mk ((by rw [hg]; exact Nat.ne_of_gt (blk_lt (g := gb142) (o := .cells #[.int .i64 0,.int .i64 0] 40 (0,0)) (by (with_reducible repeat (first | refine blk_drewN ?_ _ | refine blk_drew ?_ | refine blk_alloc ?_ _)); exact BK142.out)) : gb141 ≠ gb142))
                      clear BK142
                      clear HB
                      have BK142 := n0_
                      have HB := n1_
                      have BK141 := n2_
                      have GW141 := n3_
                      have GE141 := n4_
                      have NB142_141 := n5_
                      have NB141_142 := n6_
                      clear n0_ n1_ n2_ n3_ n4_ n5_ n6_
                      clear hb hbox hg
                      refine hK.out _ _ ⟨((HB.out.cell (World.block_lt_of_cell? _ _ hw137_0)).trans hw137_0),((HB.out.cell (World.block_lt_of_cell? _ _ hw137_1)).trans hw137_1),((HB.out.cell (World.block_lt_of_cell? _ _ hw138_0)).trans hw138_0),((HB.out.cell (World.block_lt_of_cell? _ _ hw138_1)).trans hw138_1),((HB.out.cell (World.block_lt_of_cell? _ _ hw139_0)).trans hw139_0),((HB.out.cell (World.block_lt_of_cell? _ _ hw139_1)).trans hw139_1)⟩ (fun hHeld => ?_)
                      clear hK K
                      refine norm_ (a' := ?_) ?_ ?_
                      rotate_left
                      ·show Act.put _ (some 7) _ = _
                       simp only [Act.put,List.setIfInBounds_toArray,List.set_cons_zero,List.set_cons_succ,i64_w,i32_w]
                       rfl
                      exact norm_ (by first | (simp only [putAll,Act.put,List.setIfInBounds_toArray,List.set_cons_zero,List.set_cons_succ]; done) | (simp only [putAll,Act.put,List.setIfInBounds_toArray,List.set_cons_zero,List.set_cons_succ]; rfl)) (hJ19_20 (gb141,gb142) _ ⟨hHeld,(by (with_reducible repeat (first | refine blk_drewN ?_ _ | refine blk_drew ?_ | refine blk_alloc ?_ _)); exact BK141.out),(by (with_reducible repeat (first | refine blk_drewN ?_ _ | refine blk_drew ?_ | refine blk_alloc ?_ _)); exact BK142.out),GW141.out,GE141.out,NB142_141.out,NB141_142.out,GW142.out,GE142.out,(by repeat (first | (with_reducible first | exact HB.out | apply below_alloc | apply pw_below_drewN | apply below_drew1 | refine below_set ?_ GE142.out | refine below_set ?_ GE141.out) | exact HB.out))⟩)
                   ·skip
                    rintro gb141 w18 ⟨hS_,h0_,h1_,h2_,h3_⟩
                    have n0_ : Aside0 (w18.heap[gb141]? = some (.cells #[.int .i64 0,.int .i64 0] 40 (0,0))) := ⟨h0_⟩
                    have n1_ : Aside0 (w.heap.size ≤ gb141) := ⟨h1_⟩
                    have n2_ : Aside0 (w.heap.size ≤ gb141) := ⟨h2_⟩
                    have n3_ : Aside0 (Below w.heap.size w w18) := ⟨h3_⟩
                    clear HB
                    clear h0_ h1_ h2_ h3_
                    have BK141 := n0_
                    have GW141 := n1_
                    have GE141 := n2_
                    have HB := n3_
                    clear n0_ n1_ n2_ n3_
                    have hHeld : w18.cell? (ad137.add ((x5_2).toNat * 2)) = some (.int .i64 ((rd_T40 l0 x5_2).f0)) ∧ w18.cell? ⟨(ad137.add ((x5_2).toNat * 2)).block,(ad137.add ((x5_2).toNat * 2)).off + 1,none⟩ = some (.int .i64 ((rd_T40 l0 x5_2).f1)) ∧ w18.cell? (ad137.add (((ji9)).toNat * 2)) = some (.int .i64 ((rd_T40 l0 (ji9)).f0)) ∧ w18.cell? ⟨(ad137.add (((ji9)).toNat * 2)).block,(ad137.add (((ji9)).toNat * 2)).off + 1,none⟩ = some (.int .i64 ((rd_T40 l0 (ji9)).f1)) ∧ w18.cell? (ad137.add (((ji12)).toNat * 2)) = some (.int .i64 ((rd_T40 l0 (ji12)).f0)) ∧ w18.cell? ⟨(ad137.add (((ji12)).toNat * 2)).block,(ad137.add (((ji12)).toNat * 2)).off + 1,none⟩ = some (.int .i64 ((rd_T40 l0 (ji12)).f1)) := hS_
                    refine norm_ (a' := ?_) ?_ ?_
                    rotate_left
                    ·simp only [putAll,Act.put,List.setIfInBounds_toArray,List.set_cons_zero,List.set_cons_succ]
                     rfl
                    refine two_ (i := 18) (j := 20) (Ni := some 6) (Nj := some 8) #[true,true,true,true,true,true,true,true,true,true,true,true,true,true,true,true,true,true,true,true,false,false,false,false] #[true,true,true,true,true,true,true,true,true,true,true,true,true,true,true,true,true,true,false,true,true,false,false,false] rfl rfl rfl rfl (two_of HT_.out (by kernel_rfl)) (by decide) (by decide) (fun K hK => ?_) (fun K hK => ?_)
                    ·skip
                     refine box_step ?hg (N := 6) ?hd (cs := #[.int .i64 0,.int .i64 0]) (t := 40) ?hr ?_; (case hd => rfl); (case hg => rfl); (case hr => first | (go_simp; done) | (go_simp; rfl))
                     intro gb140 hg w19 hbox hb
                     have n0_ := Aside0.mk (blk_below (g := gb141) (o := .cells #[.int .i64 0,.int .i64 0] 40 (0,0)) (by (with_reducible repeat (first | refine blk_drewN ?_ _ | refine blk_drew ?_ | refine blk_alloc ?_ _)); exact BK141.out) hb)
                     have n1_ := Aside0.mk (below_step (by repeat (first | (with_reducible first | exact HB.out | apply below_alloc | apply pw_below_drewN | apply below_drew1 | refine below_set ?_ GE141.out) | exact HB.out)) hb)
                     have n2_ := Aside0.mk (hbox)
                     have n3_ := Aside0.mk ((by rw [hg]; exact (below_size (by repeat (first | (with_reducible first | exact HB.out | apply below_alloc | apply pw_below_drewN | apply below_drew1 | refine below_set ?_ GE141.out) | exact HB.out))) : w.heap.size ≤ gb140))
                     have n4_ := Aside0.mk ((by rw [hg]; exact (below_size (by repeat (first | (with_reducible first | exact HB.out | apply below_alloc | apply pw_below_drewN | apply below_drew1 | refine below_set ?_ GE141.out) | exact HB.out))) : w.heap.size ≤ gb140))
                     have n5_ := Aside0.mk ((by rw [hg]; exact Nat.ne_of_lt (blk_lt (g := gb141) (o := .cells #[.int .i64 0,.int .i64 0] 40 (0,0)) (by (with_reducible repeat (first | refine blk_drewN ?_ _ | refine blk_drew ?_ | refine blk_alloc ?_ _)); exact BK141.out)) : gb141 ≠ gb140))
                     have n6_ := Aside0.mk ((by rw [hg]; exact Nat.ne_of_gt (blk_lt (g := gb141) (o := .cells #[.int .i64 0,.int .i64 0] 40 (0,0)) (by (with_reducible repeat (first | refine blk_drewN ?_ _ | refine blk_drew ?_ | refine blk_alloc ?_ _)); exact BK141.out)) : gb140 ≠ gb141))
                     clear BK141
                     clear HB
                     have BK141 := n0_
                     have HB := n1_
                     have BK140 := n2_
                     have GW140 := n3_
                     have GE140 := n4_
                     have NB141_140 := n5_
                     have NB140_141 := n6_
                     clear n0_ n1_ n2_ n3_ n4_ n5_ n6_
                     clear hb hbox hg
                     refine hK.out _ _ ⟨((HB.out.cell (World.block_lt_of_cell? _ _ hw137_0)).trans hw137_0),((HB.out.cell (World.block_lt_of_cell? _ _ hw137_1)).trans hw137_1),((HB.out.cell (World.block_lt_of_cell? _ _ hw138_0)).trans hw138_0),((HB.out.cell (World.block_lt_of_cell? _ _ hw138_1)).trans hw138_1),((HB.out.cell (World.block_lt_of_cell? _ _ hw139_0)).trans hw139_0),((HB.out.cell (World.block_lt_of_cell? _ _ hw139_1)).trans hw139_1)⟩ (fun hHeld => ?_)
                     clear hK K
                     refine norm_ (a' := ?_) ?_ ?_
                     rotate_left
                     ·show Act.put _ (some 6) _ = _
                      simp only [Act.put,List.setIfInBounds_toArray,List.set_cons_zero,List.set_cons_succ,i64_w,i32_w]
                      rfl
                     exact norm_ (by first | (simp only [putAll,Act.put,List.setIfInBounds_toArray,List.set_cons_zero,List.set_cons_succ]; done) | (simp only [putAll,Act.put,List.setIfInBounds_toArray,List.set_cons_zero,List.set_cons_succ]; rfl)) (hJ18_19 (gb140,gb141) _ ⟨hHeld,(by (with_reducible repeat (first | refine blk_drewN ?_ _ | refine blk_drew ?_ | refine blk_alloc ?_ _)); exact BK140.out),(by (with_reducible repeat (first | refine blk_drewN ?_ _ | refine blk_drew ?_ | refine blk_alloc ?_ _)); exact BK141.out),GW140.out,GE140.out,NB141_140.out,NB140_141.out,GW141.out,GE141.out,(by repeat (first | (with_reducible first | exact HB.out | apply below_alloc | apply pw_below_drewN | apply below_drew1 | refine below_set ?_ GE141.out | refine below_set ?_ GE140.out) | exact HB.out))⟩)
                    ·skip
                     refine box_step ?hg (N := 8) ?hd (cs := #[.int .i64 0,.int .i64 0]) (t := 40) ?hr ?_; (case hd => rfl); (case hg => rfl); (case hr => first | (go_simp; done) | (go_simp; rfl))
                     intro gb142 hg w19 hbox hb
                     have n0_ := Aside0.mk (blk_below (g := gb141) (o := .cells #[.int .i64 0,.int .i64 0] 40 (0,0)) (by (with_reducible repeat (first | refine blk_drewN ?_ _ | refine blk_drew ?_ | refine blk_alloc ?_ _)); exact BK141.out) hb)
                     have n1_ := Aside0.mk (below_step (by repeat (first | (with_reducible first | exact HB.out | apply below_alloc | apply pw_below_drewN | apply below_drew1 | refine below_set ?_ GE141.out) | exact HB.out)) hb)
                     have n2_ := Aside0.mk (hbox)
                     have n3_ := Aside0.mk ((by rw [hg]; exact (below_size (by repeat (first | (with_reducible first | exact HB.out | apply below_alloc | apply pw_below_drewN | apply below_drew1 | refine below_set ?_ GE141.out) | exact HB.out))) : w.heap.size ≤ gb142))
                     have n4_ := Aside0.mk ((by rw [hg]; exact (below_size (by repeat (first | (with_reducible first | exact HB.out | apply below_alloc | apply pw_below_drewN | apply below_drew1 | refine below_set ?_ GE141.out) | exact HB.out))) : w.heap.size ≤ gb142))
                     have n5_ := Aside0.mk ((by rw [hg]; exact Nat.ne_of_lt (blk_lt (g := gb141) (o := .cells #[.int .i64 0,.int .i64 0] 40 (0,0)) (by (with_reducible repeat (first | refine blk_drewN ?_ _ | refine blk_drew ?_ | refine blk_alloc ?_ _)); exact BK141.out)) : gb141 ≠ gb142))
                     have n6_ := Aside0.mk ((by rw [hg]; exact Nat.ne_of_gt (blk_lt (g := gb141) (o := .cells #[.int .i64 0,.int .i64 0] 40 (0,0)) (by (with_reducible repeat (first | refine blk_drewN ?_ _ | refine blk_drew ?_ | refine blk_alloc ?_ _)); exact BK141.out)) : gb142 ≠ gb141))
                     clear BK141
                     clear HB
                     have BK141 := n0_
                     have HB := n1_
                     have BK142 := n2_
                     have GW142 := n3_
                     have GE142 := n4_
                     have NB141_142 := n5_
                     have NB142_141 := n6_
                     clear n0_ n1_ n2_ n3_ n4_ n5_ n6_
                     clear hb hbox hg
                     refine hK.out _ _ ⟨((HB.out.cell (World.block_lt_of_cell? _ _ hw137_0)).trans hw137_0),((HB.out.cell (World.block_lt_of_cell? _ _ hw137_1)).trans hw137_1),((HB.out.cell (World.block_lt_of_cell? _ _ hw138_0)).trans hw138_0),((HB.out.cell (World.block_lt_of_cell? _ _ hw138_1)).trans hw138_1),((HB.out.cell (World.block_lt_of_cell? _ _ hw139_0)).trans hw139_0),((HB.out.cell (World.block_lt_of_cell? _ _ hw139_1)).trans hw139_1)⟩ (fun hHeld => ?_)
                     clear hK K
                     refine norm_ (a' := ?_) ?_ ?_
                     rotate_left
                     ·show Act.put _ (some 8) _ = _
                      simp only [Act.put,List.setIfInBounds_toArray,List.set_cons_zero,List.set_cons_succ,i64_w,i32_w]
                      rfl
                     exact norm_ (by first | (simp only [putAll,Act.put,List.setIfInBounds_toArray,List.set_cons_zero,List.set_cons_succ]; done) | (simp only [putAll,Act.put,List.setIfInBounds_toArray,List.set_cons_zero,List.set_cons_succ]; rfl)) (hJ19_20 (gb141,gb142) _ ⟨hHeld,(by (with_reducible repeat (first | refine blk_drewN ?_ _ | refine blk_drew ?_ | refine blk_alloc ?_ _)); exact BK141.out),(by (with_reducible repeat (first | refine blk_drewN ?_ _ | refine blk_drew ?_ | refine blk_alloc ?_ _)); exact BK142.out),GW141.out,GE141.out,NB142_141.out,NB141_142.out,GW142.out,GE142.out,(by repeat (first | (with_reducible first | exact HB.out | apply below_alloc | apply pw_below_drewN | apply below_drew1 | refine below_set ?_ GE141.out | refine below_set ?_ GE142.out) | exact HB.out))⟩)
                  ·skip
                   rintro gb140 w18 ⟨hS_,h0_,h1_,h2_,h3_⟩
                   have n0_ : Aside0 (w18.heap[gb140]? = some (.cells #[.int .i64 0,.int .i64 0] 40 (0,0))) := ⟨h0_⟩
                   have n1_ : Aside0 (w.heap.size ≤ gb140) := ⟨h1_⟩
                   have n2_ : Aside0 (w.heap.size ≤ gb140) := ⟨h2_⟩
                   have n3_ : Aside0 (Below w.heap.size w w18) := ⟨h3_⟩
                   clear HB
                   clear h0_ h1_ h2_ h3_
                   have BK140 := n0_
                   have GW140 := n1_
                   have GE140 := n2_
                   have HB := n3_
                   clear n0_ n1_ n2_ n3_
                   have hHeld : w18.cell? (ad137.add ((x5_2).toNat * 2)) = some (.int .i64 ((rd_T40 l0 x5_2).f0)) ∧ w18.cell? ⟨(ad137.add ((x5_2).toNat * 2)).block,(ad137.add ((x5_2).toNat * 2)).off + 1,none⟩ = some (.int .i64 ((rd_T40 l0 x5_2).f1)) ∧ w18.cell? (ad137.add (((ji9)).toNat * 2)) = some (.int .i64 ((rd_T40 l0 (ji9)).f0)) ∧ w18.cell? ⟨(ad137.add (((ji9)).toNat * 2)).block,(ad137.add (((ji9)).toNat * 2)).off + 1,none⟩ = some (.int .i64 ((rd_T40 l0 (ji9)).f1)) ∧ w18.cell? (ad137.add (((ji12)).toNat * 2)) = some (.int .i64 ((rd_T40 l0 (ji12)).f0)) ∧ w18.cell? ⟨(ad137.add (((ji12)).toNat * 2)).block,(ad137.add (((ji12)).toNat * 2)).off + 1,none⟩ = some (.int .i64 ((rd_T40 l0 (ji12)).f1)) := hS_
                   refine norm_ (a' := ?_) ?_ ?_
                   rotate_left
                   ·simp only [putAll,Act.put,List.setIfInBounds_toArray,List.set_cons_zero,List.set_cons_succ]
                    rfl
                   refine two_ (i := 19) (j := 20) (Ni := some 7) (Nj := some 8) #[true,true,true,true,true,true,true,true,true,true,true,true,true,true,true,true,true,true,true,true,false,false,false,false] #[true,true,true,true,true,true,true,true,true,true,true,true,true,true,true,true,true,true,true,false,true,false,false,false] rfl rfl rfl rfl (two_of HT_.out (by kernel_rfl)) (by decide) (by decide) (fun K hK => ?_) (fun K hK => ?_)
                   ·skip
                    refine box_step ?hg (N := 7) ?hd (cs := #[.int .i64 0,.int .i64 0]) (t := 40) ?hr ?_; (case hd => rfl); (case hg => rfl); (case hr => first | (go_simp; done) | (go_simp; rfl))
                    intro gb141 hg w19 hbox hb
                    have n0_ := Aside0.mk (blk_below (g := gb140) (o := .cells #[.int .i64 0,.int .i64 0] 40 (0,0)) (by (with_reducible repeat (first | refine blk_drewN ?_ _ | refine blk_drew ?_ | refine blk_alloc ?_ _)); exact BK140.out) hb)
                    have n1_ := Aside0.mk (below_step (by repeat (first | (with_reducible first | exact HB.out | apply below_alloc | apply pw_below_drewN | apply below_drew1 | refine below_set ?_ GE140.out) | exact HB.out)) hb)
                    have n2_ := Aside0.mk (hbox)
                    have n3_ := Aside0.mk ((by rw [hg]; exact (below_size (by repeat (first | (with_reducible first | exact HB.out | apply below_alloc | apply pw_below_drewN | apply below_drew1 | refine below_set ?_ GE140.out) | exact HB.out))) : w.heap.size ≤ gb141))
                    have n4_ := Aside0.mk ((by rw [hg]; exact (below_size (by repeat (first | (with_reducible first | exact HB.out | apply below_alloc | apply pw_below_drewN | apply below_drew1 | refine below_set ?_ GE140.out) | exact HB.out))) : w.heap.size ≤ gb141))
                    have n5_ := Aside0.mk ((by rw [hg]; exact Nat.ne_of_lt (blk_lt (g := gb140) (o := .cells #[.int .i64 0,.int .i64 0] 40 (0,0)) (by (with_reducible repeat (first | refine blk_drewN ?_ _ | refine blk_drew ?_ | refine blk_alloc ?_ _)); exact BK140.out)) : gb140 ≠ gb141))
                    have n6_ := Aside0.mk ((by rw [hg]; exact Nat.ne_of_gt (blk_lt (g := gb140) (o := .cells #[.int .i64 0,.int .i64 0] 40 (0,0)) (by (with_reducible repeat (first | refine blk_drewN ?_ _ | refine blk_drew ?_ | refine blk_alloc ?_ _)); exact BK140.out)) : gb141 ≠ gb140))
                    clear BK140
                    clear HB
                    have BK140 := n0_
                    have HB := n1_
                    have BK141 := n2_
                    have GW141 := n3_
                    have GE141 := n4_
                    have NB140_141 := n5_
                    have NB141_140 := n6_
                    clear n0_ n1_ n2_ n3_ n4_ n5_ n6_
                    clear hb hbox hg
                    refine hK.out _ _ ⟨((HB.out.cell (World.block_lt_of_cell? _ _ hw137_0)).trans hw137_0),((HB.out.cell (World.block_lt_of_cell? _ _ hw137_1)).trans hw137_1),((HB.out.cell (World.block_lt_of_cell? _ _ hw138_0)).trans hw138_0),((HB.out.cell (World.block_lt_of_cell? _ _ hw138_1)).trans hw138_1),((HB.out.cell (World.block_lt_of_cell? _ _ hw139_0)).trans hw139_0),((HB.out.cell (World.block_lt_of_cell? _ _ hw139_1)).trans hw139_1)⟩ (fun hHeld => ?_)
                    clear hK K
                    refine norm_ (a' := ?_) ?_ ?_
                    rotate_left
                    ·show Act.put _ (some 7) _ = _
                     simp only [Act.put,List.setIfInBounds_toArray,List.set_cons_zero,List.set_cons_succ,i64_w,i32_w]
                     rfl
                    exact norm_ (by first | (simp only [putAll,Act.put,List.setIfInBounds_toArray,List.set_cons_zero,List.set_cons_succ]; done) | (simp only [putAll,Act.put,List.setIfInBounds_toArray,List.set_cons_zero,List.set_cons_succ]; rfl)) (hJ18_19 (gb140,gb141) _ ⟨hHeld,(by (with_reducible repeat (first | refine blk_drewN ?_ _ | refine blk_drew ?_ | refine blk_alloc ?_ _)); exact BK140.out),(by (with_reducible repeat (first | refine blk_drewN ?_ _ | refine blk_drew ?_ | refine blk_alloc ?_ _)); exact BK141.out),GW140.out,GE140.out,NB141_140.out,NB140_141.out,GW141.out,GE141.out,(by repeat (first | (with_reducible first | exact HB.out | apply below_alloc | apply pw_below_drewN | apply below_drew1 | refine below_set ?_ GE140.out | refine below_set ?_ GE141.out) | exact HB.out))⟩)
                   ·skip
                    refine box_step ?hg (N := 8) ?hd (cs := #[.int .i64 0,.int .i64 0]) (t := 40) ?hr ?_; (case hd => rfl); (case hg => rfl); (case hr => first | (go_simp; done) | (go_simp; rfl))
                    intro gb142 hg w19 hbox hb
                    have n0_ := Aside0.mk (blk_below (g := gb140) (o := .cells #[.int .i64 0,.int .i64 0] 40 (0,0)) (by (with_reducible repeat (first | refine blk_drewN ?_ _ | refine blk_drew ?_ | refine blk_alloc ?_ _)); exact BK140.out) hb)
                    have n1_ := Aside0.mk (below_step (by repeat (first | (with_reducible first | exact HB.out | apply below_alloc | apply pw_below_drewN | apply below_drew1 | refine below_set ?_ GE140.out) | exact HB.out)) hb)
                    have n2_ := Aside0.mk (hbox)
                    have n3_ := Aside0.mk ((by rw [hg]; exact (below_size (by repeat (first | (with_reducible first | exact HB.out | apply below_alloc | apply pw_below_drewN | apply below_drew1 | refine below_set ?_ GE140.out) | exact HB.out))) : w.heap.size ≤ gb142))
                    have n4_ := Aside0.mk ((by rw [hg]; exact (below_size (by repeat (first | (with_reducible first | exact HB.out | apply below_alloc | apply pw_below_drewN | apply below_drew1 | refine below_set ?_ GE140.out) | exact HB.out))) : w.heap.size ≤ gb142))
                    have n5_ := Aside0.mk ((by rw [hg]; exact Nat.ne_of_lt (blk_lt (g := gb140) (o := .cells #[.int .i64 0,.int .i64 0] 40 (0,0)) (by (with_reducible repeat (first | refine blk_drewN ?_ _ | refine blk_drew ?_ | refine blk_alloc ?_ _)); exact BK140.out)) : gb140 ≠ gb142))
                    have n6_ := Aside0.mk ((by rw [hg]; exact Nat.ne_of_gt (blk_lt (g := gb140) (o := .cells #[.int .i64 0,.int .i64 0] 40 (0,0)) (by (with_reducible repeat (first | refine blk_drewN ?_ _ | refine blk_drew ?_ | refine blk_alloc ?_ _)); exact BK140.out)) : gb142 ≠ gb140))
                    clear BK140
                    clear HB
                    have BK140 := n0_
                    have HB := n1_
                    have BK142 := n2_
                    have GW142 := n3_
                    have GE142 := n4_
                    have NB140_142 := n5_
                    have NB142_140 := n6_
                    clear n0_ n1_ n2_ n3_ n4_ n5_ n6_
                    clear hb hbox hg
                    refine hK.out _ _ ⟨((HB.out.cell (World.block_lt_of_cell? _ _ hw137_0)).trans hw137_0),((HB.out.cell (World.block_lt_of_cell? _ _ hw137_1)).trans hw137_1),((HB.out.cell (World.block_lt_of_cell? _ _ hw138_0)).trans hw138_0),((HB.out.cell (World.block_lt_of_cell? _ _ hw138_1)).trans hw138_1),((HB.out.cell (World.block_lt_of_cell? _ _ hw139_0)).trans hw139_0),((HB.out.cell (World.block_lt_of_cell? _ _ hw139_1)).trans hw139_1)⟩ (fun hHeld => ?_)
                    clear hK K
                    refine norm_ (a' := ?_) ?_ ?_
                    rotate_left
                    ·show Act.put _ (some 8) _ = _
                     simp only [Act.put,List.setIfInBounds_toArray,List.set_cons_zero,List.set_cons_succ,i64_w,i32_w]
                     rfl
                    exact norm_ (by first | (simp only [putAll,Act.put,List.setIfInBounds_toArray,List.set_cons_zero,List.set_cons_succ]; done) | (simp only [putAll,Act.put,List.setIfInBounds_toArray,List.set_cons_zero,List.set_cons_succ]; rfl)) (hJ18_20 (gb140,gb142) _ ⟨hHeld,(by (with_reducible repeat (first | refine blk_drewN ?_ _ | refine blk_drew ?_ | refine blk_alloc ?_ _)); exact BK140.out),(by (with_reducible repeat (first | refine blk_drewN ?_ _ | refine blk_drew ?_ | refine blk_alloc ?_ _)); exact BK142.out),GW140.out,GE140.out,NB142_140.out,NB140_142.out,GW142.out,GE142.out,(by repeat (first | (with_reducible first | exact HB.out | apply below_alloc | apply pw_below_drewN | apply below_drew1 | refine below_set ?_ GE140.out | refine below_set ?_ GE142.out) | exact HB.out))⟩)
                 ·skip
                  rintro ⟨gb141,gb142⟩ w19 ⟨hS_,h0_,h1_,h2_,h3_,h4_,h5_,h6_,h7_,h8_⟩
                  have n0_ : Aside0 (w19.heap[gb141]? = some (.cells #[.int .i64 0,.int .i64 0] 40 (0,0))) := ⟨h0_⟩
                  have n1_ : Aside0 (w19.heap[gb142]? = some (.cells #[.int .i64 0,.int .i64 0] 40 (0,0))) := ⟨h1_⟩
                  have n2_ : Aside0 (w.heap.size ≤ gb141) := ⟨h2_⟩
                  have n3_ : Aside0 (w.heap.size ≤ gb141) := ⟨h3_⟩
                  have n4_ : Aside0 (gb142 ≠ gb141) := ⟨h4_⟩
                  have n5_ : Aside0 (gb141 ≠ gb142) := ⟨h5_⟩
                  have n6_ : Aside0 (w.heap.size ≤ gb142) := ⟨h6_⟩
                  have n7_ : Aside0 (w.heap.size ≤ gb142) := ⟨h7_⟩
                  have n8_ : Aside0 (Below w.heap.size w w19) := ⟨h8_⟩
                  clear HB
                  clear h0_ h1_ h2_ h3_ h4_ h5_ h6_ h7_ h8_
                  have BK141 := n0_
                  have BK142 := n1_
                  have GW141 := n2_
                  have GE141 := n3_
                  have NB142_141 := n4_
                  have NB141_142 := n5_
                  have GW142 := n6_
                  have GE142 := n7_
                  have HB := n8_
                  clear n0_ n1_ n2_ n3_ n4_ n5_ n6_ n7_ n8_
                  have hHeld : w19.cell? (ad137.add ((x5_2).toNat * 2)) = some (.int .i64 ((rd_T40 l0 x5_2).f0)) ∧ w19.cell? ⟨(ad137.add ((x5_2).toNat * 2)).block,(ad137.add ((x5_2).toNat * 2)).off + 1,none⟩ = some (.int .i64 ((rd_T40 l0 x5_2).f1)) ∧ w19.cell? (ad137.add (((ji9)).toNat * 2)) = some (.int .i64 ((rd_T40 l0 (ji9)).f0)) ∧ w19.cell? ⟨(ad137.add (((ji9)).toNat * 2)).block,(ad137.add (((ji9)).toNat * 2)).off + 1,none⟩ = some (.int .i64 ((rd_T40 l0 (ji9)).f1)) ∧ w19.cell? (ad137.add (((ji12)).toNat * 2)) = some (.int .i64 ((rd_T40 l0 (ji12)).f0)) ∧ w19.cell? ⟨(ad137.add (((ji12)).toNat * 2)).block,(ad137.add (((ji12)).toNat * 2)).off + 1,none⟩ = some (.int .i64 ((rd_T40 l0 (ji12)).f1)) := hS_
                  refine norm_ (a' := ?_) ?_ ?_
                  rotate_left
                  ·simp only [putAll,Act.put,List.setIfInBounds_toArray,List.set_cons_zero,List.set_cons_succ]
                   rfl
                  refine one_ (i := 18) (N := some 6) #[true,true,true,true,true,true,true,true,true,true,true,true,true,true,true,true,true,true,true,true,true,false,false,false] rfl rfl (one_of HT_.out (by kernel_rfl)) (by decide) (fun K hK => ?_)
                  refine box_step ?hg (N := 6) ?hd (cs := #[.int .i64 0,.int .i64 0]) (t := 40) ?hr ?_; (case hd => rfl); (case hg => rfl); (case hr => first | (go_simp; done) | (go_simp; rfl))
                  intro gb140 hg w20 hbox hb
                  have n0_ := Aside0.mk (blk_below (g := gb141) (o := .cells #[.int .i64 0,.int .i64 0] 40 (0,0)) (by (with_reducible repeat (first | refine blk_drewN ?_ _ | refine blk_drew ?_ | refine blk_alloc ?_ _)); exact BK141.out) hb)
                  have n1_ := Aside0.mk (blk_below (g := gb142) (o := .cells #[.int .i64 0,.int .i64 0] 40 (0,0)) (by (with_reducible repeat (first | refine blk_drewN ?_ _ | refine blk_drew ?_ | refine blk_alloc ?_ _)); exact BK142.out) hb)
                  have n2_ := Aside0.mk (below_step (by repeat (first | (with_reducible first | exact HB.out | apply below_alloc | apply pw_below_drewN | apply below_drew1 | refine below_set ?_ GE141.out | refine below_set ?_ GE142.out) | exact HB.out)) hb)
                  have n3_ := Aside0.mk (hbox)
                  have n4_ := Aside0.mk ((by rw [hg]; exact (below_size (by repeat (first | (with_reducible first | exact HB.out | apply below_alloc | apply pw_below_drewN | apply below_drew1 | refine below_set ?_ GE141.out | refine below_set ?_ GE142.out) | exact HB.out))) : w.heap.size ≤ gb140))
                  have n5_ := Aside0.mk ((by rw [hg]; exact (below_size (by repeat (first | (with_reducible first | exact HB.out | apply below_alloc | apply pw_below_drewN | apply below_drew1 | refine below_set ?_ GE141.out | refine below_set ?_ GE142.out) | exact HB.out))) : w.heap.size ≤ gb140))
                  have n6_ := Aside0.mk ((by rw [hg]; exact Nat.ne_of_lt (blk_lt (g := gb141) (o := .cells #[.int .i64 0,.int .i64 0] 40 (0,0)) (by (with_reducible repeat (first | refine blk_drewN ?_ _ | refine blk_drew ?_ | refine blk_alloc ?_ _)); exact BK141.out)) : gb141 ≠ gb140))
                  have n7_ := Aside0.mk ((by rw [hg]; exact Nat.ne_of_gt (blk_lt (g := gb141) (o := .cells #[.int .i64 0,.int .i64 0] 40 (0,0)) (by (with_reducible repeat (first | refine blk_drewN ?_ _ | refine blk_drew ?_ | refine blk_alloc ?_ _)); exact BK141.out)) : gb140 ≠ gb141))
                  have n8_ := Aside0.mk ((by rw [hg]; exact Nat.ne_of_lt (blk_lt (g := gb142) (o := .cells #[.int .i64 0,.int .i64 0] 40 (0,0)) (by (with_reducible repeat (first | refine blk_drewN ?_ _ | refine blk_drew ?_ | refine blk_alloc ?_ _)); exact BK142.out)) : gb142 ≠ gb140))
                  have n9_ := Aside0.mk ((by rw [hg]; exact Nat.ne_of_gt (blk_lt (g := gb142) (o := .cells #[.int .i64 0,.int .i64 0] 40 (0,0)) (by (with_reducible repeat (first | refine blk_drewN ?_ _ | refine blk_drew ?_ | refine blk_alloc ?_ _)); exact BK142.out)) : gb140 ≠ gb142))
                  clear BK141
                  clear BK142
                  clear HB
                  have BK141 := n0_
                  have BK142 := n1_
                  have HB := n2_
                  have BK140 := n3_
                  have GW140 := n4_
                  have GE140 := n5_
                  have NB141_140 := n6_
                  have NB140_141 := n7_
                  have NB142_140 := n8_
                  have NB140_142 := n9_
                  clear n0_ n1_ n2_ n3_ n4_ n5_ n6_ n7_ n8_ n9_
                  clear hb hbox hg
                  refine hK.out _ _ ⟨((HB.out.cell (World.block_lt_of_cell? _ _ hw137_0)).trans hw137_0),((HB.out.cell (World.block_lt_of_cell? _ _ hw137_1)).trans hw137_1),((HB.out.cell (World.block_lt_of_cell? _ _ hw138_0)).trans hw138_0),((HB.out.cell (World.block_lt_of_cell? _ _ hw138_1)).trans hw138_1),((HB.out.cell (World.block_lt_of_cell? _ _ hw139_0)).trans hw139_0),((HB.out.cell (World.block_lt_of_cell? _ _ hw139_1)).trans hw139_1)⟩ (fun hHeld => ?_)
                  clear hK K
                  refine norm_ (a' := ?_) ?_ ?_
                  rotate_left
                  ·show Act.put _ (some 6) _ = _
                   simp only [Act.put,List.setIfInBounds_toArray,List.set_cons_zero,List.set_cons_succ,i64_w,i32_w]
                   rfl
                  exact norm_ (by first | (simp only [putAll,Act.put,List.setIfInBounds_toArray,List.set_cons_zero,List.set_cons_succ]; done) | (simp only [putAll,Act.put,List.setIfInBounds_toArray,List.set_cons_zero,List.set_cons_succ]; rfl)) (hJ18_19_20 (gb140,gb141,gb142) _ ⟨hHeld,(by (with_reducible repeat (first | refine blk_drewN ?_ _ | refine blk_drew ?_ | refine blk_alloc ?_ _)); exact BK140.out),(by (with_reducible repeat (first | refine blk_drewN ?_ _ | refine blk_drew ?_ | refine blk_alloc ?_ _)); exact BK141.out),(by (with_reducible repeat (first | refine blk_drewN ?_ _ | refine blk_drew ?_ | refine blk_alloc ?_ _)); exact BK142.out),GW140.out,GE140.out,NB141_140.out,NB140_141.out,NB142_140.out,NB140_142.out,GW141.out,GE141.out,NB142_141.out,NB141_142.out,GW142.out,GE142.out,(by repeat (first | (with_reducible first | exact HB.out | apply below_alloc | apply pw_below_drewN | apply below_drew1 | refine below_set ?_ GE141.out | refine below_set ?_ GE142.out | refine below_set ?_ GE140.out) | exact HB.out))⟩)
                ·skip
                 rintro ⟨gb140,gb142⟩ w19 ⟨hS_,h0_,h1_,h2_,h3_,h4_,h5_,h6_,h7_,h8_⟩
                 have n0_ : Aside0 (w19.heap[gb140]? = some (.cells #[.int .i64 0,.int .i64 0] 40 (0,0))) := ⟨h0_⟩
                 have n1_ : Aside0 (w19.heap[gb142]? = some (.cells #[.int .i64 0,.int .i64 0] 40 (0,0))) := ⟨h1_⟩
                 have n2_ : Aside0 (w.heap.size ≤ gb140) := ⟨h2_⟩
                 have n3_ : Aside0 (w.heap.size ≤ gb140) := ⟨h3_⟩
                 have n4_ : Aside0 (gb142 ≠ gb140) := ⟨h4_⟩
                 have n5_ : Aside0 (gb140 ≠ gb142) := ⟨h5_⟩
                 have n6_ : Aside0 (w.heap.size ≤ gb142) := ⟨h6_⟩
                 have n7_ : Aside0 (w.heap.size ≤ gb142) := ⟨h7_⟩
                 have n8_ : Aside0 (Below w.heap.size w w19) := ⟨h8_⟩
                 clear HB
                 clear h0_ h1_ h2_ h3_ h4_ h5_ h6_ h7_ h8_
                 have BK140 := n0_
                 have BK142 := n1_
                 have GW140 := n2_
                 have GE140 := n3_
                 have NB142_140 := n4_
                 have NB140_142 := n5_
                 have GW142 := n6_
                 have GE142 := n7_
                 have HB := n8_
                 clear n0_ n1_ n2_ n3_ n4_ n5_ n6_ n7_ n8_
                 have hHeld : w19.cell? (ad137.add ((x5_2).toNat * 2)) = some (.int .i64 ((rd_T40 l0 x5_2).f0)) ∧ w19.cell? ⟨(ad137.add ((x5_2).toNat * 2)).block,(ad137.add ((x5_2).toNat * 2)).off + 1,none⟩ = some (.int .i64 ((rd_T40 l0 x5_2).f1)) ∧ w19.cell? (ad137.add (((ji9)).toNat * 2)) = some (.int .i64 ((rd_T40 l0 (ji9)).f0)) ∧ w19.cell? ⟨(ad137.add (((ji9)).toNat * 2)).block,(ad137.add (((ji9)).toNat * 2)).off + 1,none⟩ = some (.int .i64 ((rd_T40 l0 (ji9)).f1)) ∧ w19.cell? (ad137.add (((ji12)).toNat * 2)) = some (.int .i64 ((rd_T40 l0 (ji12)).f0)) ∧ w19.cell? ⟨(ad137.add (((ji12)).toNat * 2)).block,(ad137.add (((ji12)).toNat * 2)).off + 1,none⟩ = some (.int .i64 ((rd_T40 l0 (ji12)).f1)) := hS_
                 refine norm_ (a' := ?_) ?_ ?_
                 rotate_left
                 ·simp only [putAll,Act.put,List.setIfInBounds_toArray,List.set_cons_zero,List.set_cons_succ]
                  rfl
                 refine one_ (i := 19) (N := some 7) #[true,true,true,true,true,true,true,true,true,true,true,true,true,true,true,true,true,true,true,true,true,false,false,false] rfl rfl (one_of HT_.out (by kernel_rfl)) (by decide) (fun K hK => ?_)
                 refine box_step ?hg (N := 7) ?hd (cs := #[.int .i64 0,.int .i64 0]) (t := 40) ?hr ?_; (case hd => rfl); (case hg => rfl); (case hr => first | (go_simp; done) | (go_simp; rfl))
                 intro gb141 hg w20 hbox hb
                 have n0_ := Aside0.mk (blk_below (g := gb140) (o := .cells #[.int .i64 0,.int .i64 0] 40 (0,0)) (by (with_reducible repeat (first | refine blk_drewN ?_ _ | refine blk_drew ?_ | refine blk_alloc ?_ _)); exact BK140.out) hb)
                 have n1_ := Aside0.mk (blk_below (g := gb142) (o := .cells #[.int .i64 0,.int .i64 0] 40 (0,0)) (by (with_reducible repeat (first | refine blk_drewN ?_ _ | refine blk_drew ?_ | refine blk_alloc ?_ _)); exact BK142.out) hb)
                 have n2_ := Aside0.mk (below_step (by repeat (first | (with_reducible first | exact HB.out | apply below_alloc | apply pw_below_drewN | apply below_drew1 | refine below_set ?_ GE140.out | refine below_set ?_ GE142.out) | exact HB.out)) hb)
                 have n3_ := Aside0.mk (hbox)
                 have n4_ := Aside0.mk ((by rw [hg]; exact (below_size (by repeat (first | (with_reducible first | exact HB.out | apply below_alloc | apply pw_below_drewN | apply below_drew1 | refine below_set ?_ GE140.out | refine below_set ?_ GE142.out) | exact HB.out))) : w.heap.size ≤ gb141))
                 have n5_ := Aside0.mk ((by rw [hg]; exact (below_size (by repeat (first | (with_reducible first | exact HB.out | apply below_alloc | apply pw_below_drewN | apply below_drew1 | refine below_set ?_ GE140.out | refine below_set ?_ GE142.out) | exact HB.out))) : w.heap.size ≤ gb141))
                 have n6_ := Aside0.mk ((by rw [hg]; exact Nat.ne_of_lt (blk_lt (g := gb140) (o := .cells #[.int .i64 0,.int .i64 0] 40 (0,0)) (by (with_reducible repeat (first | refine blk_drewN ?_ _ | refine blk_drew ?_ | refine blk_alloc ?_ _)); exact BK140.out)) : gb140 ≠ gb141))
                 have n7_ := Aside0.mk ((by rw [hg]; exact Nat.ne_of_gt (blk_lt (g := gb140) (o := .cells #[.int .i64 0,.int .i64 0] 40 (0,0)) (by (with_reducible repeat (first | refine blk_drewN ?_ _ | refine blk_drew ?_ | refine blk_alloc ?_ _)); exact BK140.out)) : gb141 ≠ gb140))
                 have n8_ := Aside0.mk ((by rw [hg]; exact Nat.ne_of_lt (blk_lt (g := gb142) (o := .cells #[.int .i64 0,.int .i64 0] 40 (0,0)) (by (with_reducible repeat (first | refine blk_drewN ?_ _ | refine blk_drew ?_ | refine blk_alloc ?_ _)); exact BK142.out)) : gb142 ≠ gb141))
                 have n9_ := Aside0.mk ((by rw [hg]; exact Nat.ne_of_gt (blk_lt (g := gb142) (o := .cells #[.int .i64 0,.int .i64 0] 40 (0,0)) (by (with_reducible repeat (first | refine blk_drewN ?_ _ | refine blk_drew ?_ | refine blk_alloc ?_ _)); exact BK142.out)) : gb141 ≠ gb142))
                 clear BK140
                 clear BK142
                 clear HB
                 have BK140 := n0_
                 have BK142 := n1_
                 have HB := n2_
                 have BK141 := n3_
                 have GW141 := n4_
                 have GE141 := n5_
                 have NB140_141 := n6_
                 have NB141_140 := n7_
                 have NB142_141 := n8_
                 have NB141_142 := n9_
                 clear n0_ n1_ n2_ n3_ n4_ n5_ n6_ n7_ n8_ n9_
                 clear hb hbox hg
                 refine hK.out _ _ ⟨((HB.out.cell (World.block_lt_of_cell? _ _ hw137_0)).trans hw137_0),((HB.out.cell (World.block_lt_of_cell? _ _ hw137_1)).trans hw137_1),((HB.out.cell (World.block_lt_of_cell? _ _ hw138_0)).trans hw138_0),((HB.out.cell (World.block_lt_of_cell? _ _ hw138_1)).trans hw138_1),((HB.out.cell (World.block_lt_of_cell? _ _ hw139_0)).trans hw139_0),((HB.out.cell (World.block_lt_of_cell? _ _ hw139_1)).trans hw139_1)⟩ (fun hHeld => ?_)
                 clear hK K
                 refine norm_ (a' := ?_) ?_ ?_
                 rotate_left
                 ·show Act.put _ (some 7) _ = _
                  simp only [Act.put,List.setIfInBounds_toArray,List.set_cons_zero,List.set_cons_succ,i64_w,i32_w]
                  rfl
                 exact norm_ (by first | (simp only [putAll,Act.put,List.setIfInBounds_toArray,List.set_cons_zero,List.set_cons_succ]; done) | (simp only [putAll,Act.put,List.setIfInBounds_toArray,List.set_cons_zero,List.set_cons_succ]; rfl)) (hJ18_19_20 (gb140,gb141,gb142) _ ⟨hHeld,(by (with_reducible repeat (first | refine blk_drewN ?_ _ | refine blk_drew ?_ | refine blk_alloc ?_ _)); exact BK140.out),(by (with_reducible repeat (first | refine blk_drewN ?_ _ | refine blk_drew ?_ | refine blk_alloc ?_ _)); exact BK141.out),(by (with_reducible repeat (first | refine blk_drewN ?_ _ | refine blk_drew ?_ | refine blk_alloc ?_ _)); exact BK142.out),GW140.out,GE140.out,NB141_140.out,NB140_141.out,NB142_140.out,NB140_142.out,GW141.out,GE141.out,NB142_141.out,NB141_142.out,GW142.out,GE142.out,(by repeat (first | (with_reducible first | exact HB.out | apply below_alloc | apply pw_below_drewN | apply below_drew1 | refine below_set ?_ GE140.out | refine below_set ?_ GE142.out | refine below_set ?_ GE141.out) | exact HB.out))⟩)
               ·skip
                rintro ⟨gb140,gb141⟩ w19 ⟨hS_,h0_,h1_,h2_,h3_,h4_,h5_,h6_,h7_,h8_⟩
                have n0_ : Aside0 (w19.heap[gb140]? = some (.cells #[.int .i64 0,.int .i64 0] 40 (0,0))) := ⟨h0_⟩
                have n1_ : Aside0 (w19.heap[gb141]? = some (.cells #[.int .i64 0,.int .i64 0] 40 (0,0))) := ⟨h1_⟩
                have n2_ : Aside0 (w.heap.size ≤ gb140) := ⟨h2_⟩
                have n3_ : Aside0 (w.heap.size ≤ gb140) := ⟨h3_⟩
                have n4_ : Aside0 (gb141 ≠ gb140) := ⟨h4_⟩
                have n5_ : Aside0 (gb140 ≠ gb141) := ⟨h5_⟩
                have n6_ : Aside0 (w.heap.size ≤ gb141) := ⟨h6_⟩
                have n7_ : Aside0 (w.heap.size ≤ gb141) := ⟨h7_⟩
                have n8_ : Aside0 (Below w.heap.size w w19) := ⟨h8_⟩
                clear HB
                clear h0_ h1_ h2_ h3_ h4_ h5_ h6_ h7_ h8_
                have BK140 := n0_
                have BK141 := n1_
                have GW140 := n2_
                have GE140 := n3_
                have NB141_140 := n4_
                have NB140_141 := n5_
                have GW141 := n6_
                have GE141 := n7_
                have HB := n8_
                clear n0_ n1_ n2_ n3_ n4_ n5_ n6_ n7_ n8_
                have hHeld : w19.cell? (ad137.add ((x5_2).toNat * 2)) = some (.int .i64 ((rd_T40 l0 x5_2).f0)) ∧ w19.cell? ⟨(ad137.add ((x5_2).toNat * 2)).block,(ad137.add ((x5_2).toNat * 2)).off + 1,none⟩ = some (.int .i64 ((rd_T40 l0 x5_2).f1)) ∧ w19.cell? (ad137.add (((ji9)).toNat * 2)) = some (.int .i64 ((rd_T40 l0 (ji9)).f0)) ∧ w19.cell? ⟨(ad137.add (((ji9)).toNat * 2)).block,(ad137.add (((ji9)).toNat * 2)).off + 1,none⟩ = some (.int .i64 ((rd_T40 l0 (ji9)).f1)) ∧ w19.cell? (ad137.add (((ji12)).toNat * 2)) = some (.int .i64 ((rd_T40 l0 (ji12)).f0)) ∧ w19.cell? ⟨(ad137.add (((ji12)).toNat * 2)).block,(ad137.add (((ji12)).toNat * 2)).off + 1,none⟩ = some (.int .i64 ((rd_T40 l0 (ji12)).f1)) := hS_
                refine norm_ (a' := ?_) ?_ ?_
                rotate_left
                ·simp only [putAll,Act.put,List.setIfInBounds_toArray,List.set_cons_zero,List.set_cons_succ]
                 rfl
                refine one_ (i := 20) (N := some 8) #[true,true,true,true,true,true,true,true,true,true,true,true,true,true,true,true,true,true,true,true,true,false,false,false] rfl rfl (one_of HT_.out (by kernel_rfl)) (by decide) (fun K hK => ?_)
                refine box_step ?hg (N := 8) ?hd (cs := #[.int .i64 0,.int .i64 0]) (t := 40) ?hr ?_; (case hd => rfl); (case hg => rfl); (case hr => first | (go_simp; done) | (go_simp; rfl))
                intro gb142 hg w20 hbox hb
                have n0_ := Aside0.mk (blk_below (g := gb140) (o := .cells #[.int .i64 0,.int .i64 0] 40 (0,0)) (by (with_reducible repeat (first | refine blk_drewN ?_ _ | refine blk_drew ?_ | refine blk_alloc ?_ _)); exact BK140.out) hb)
                have n1_ := Aside0.mk (blk_below (g := gb141) (o := .cells #[.int .i64 0,.int .i64 0] 40 (0,0)) (by (with_reducible repeat (first | refine blk_drewN ?_ _ | refine blk_drew ?_ | refine blk_alloc ?_ _)); exact BK141.out) hb)
                have n2_ := Aside0.mk (below_step (by repeat (first | (with_reducible first | exact HB.out | apply below_alloc | apply pw_below_drewN | apply below_drew1 | refine below_set ?_ GE140.out | refine below_set ?_ GE141.out) | exact HB.out)) hb)
                have n3_ := Aside0.mk (hbox)
                have n4_ := Aside0.mk ((by rw [hg]; exact (below_size (by repeat (first | (with_reducible first | exact HB.out | apply below_alloc | apply pw_below_drewN | apply below_drew1 | refine below_set ?_ GE140.out | refine below_set ?_ GE141.out) | exact HB.out))) : w.heap.size ≤ gb142))
                have n5_ := Aside0.mk ((by rw [hg]; exact (below_size (by repeat (first | (with_reducible first | exact HB.out | apply below_alloc | apply pw_below_drewN | apply below_drew1 | refine below_set ?_ GE140.out | refine below_set ?_ GE141.out) | exact HB.out))) : w.heap.size ≤ gb142))
                have n6_ := Aside0.mk ((by rw [hg]; exact Nat.ne_of_lt (blk_lt (g := gb140) (o := .cells #[.int .i64 0,.int .i64 0] 40 (0,0)) (by (with_reducible repeat (first | refine blk_drewN ?_ _ | refine blk_drew ?_ | refine blk_alloc ?_ _)); exact BK140.out)) : gb140 ≠ gb142))
                have n7_ := Aside0.mk ((by rw [hg]; exact Nat.ne_of_gt (blk_lt (g := gb140) (o := .cells #[.int .i64 0,.int .i64 0] 40 (0,0)) (by (with_reducible repeat (first | refine blk_drewN ?_ _ | refine blk_drew ?_ | refine blk_alloc ?_ _)); exact BK140.out)) : gb142 ≠ gb140))
                have n8_ := Aside0.mk ((by rw [hg]; exact Nat.ne_of_lt (blk_lt (g := gb141) (o := .cells #[.int .i64 0,.int .i64 0] 40 (0,0)) (by (with_reducible repeat (first | refine blk_drewN ?_ _ | refine blk_drew ?_ | refine blk_alloc ?_ _)); exact BK141.out)) : gb141 ≠ gb142))
                have n9_ := Aside0.mk ((by rw [hg]; exact Nat.ne_of_gt (blk_lt (g := gb141) (o := .cells #[.int .i64 0,.int .i64 0] 40 (0,0)) (by (with_reducible repeat (first | refine blk_drewN ?_ _ | refine blk_drew ?_ | refine blk_alloc ?_ _)); exact BK141.out)) : gb142 ≠ gb141))
                clear BK140
                clear BK141
                clear HB
                have BK140 := n0_
                have BK141 := n1_
                have HB := n2_
                have BK142 := n3_
                have GW142 := n4_
                have GE142 := n5_
                have NB140_142 := n6_
                have NB142_140 := n7_
                have NB141_142 := n8_
                have NB142_141 := n9_
                clear n0_ n1_ n2_ n3_ n4_ n5_ n6_ n7_ n8_ n9_
                clear hb hbox hg
                refine hK.out _ _ ⟨((HB.out.cell (World.block_lt_of_cell? _ _ hw137_0)).trans hw137_0),((HB.out.cell (World.block_lt_of_cell? _ _ hw137_1)).trans hw137_1),((HB.out.cell (World.block_lt_of_cell? _ _ hw138_0)).trans hw138_0),((HB.out.cell (World.block_lt_of_cell? _ _ hw138_1)).trans hw138_1),((HB.out.cell (World.block_lt_of_cell? _ _ hw139_0)).trans hw139_0),((HB.out.cell (World.block_lt_of_cell? _ _ hw139_1)).trans hw139_1)⟩ (fun hHeld => ?_)
                clear hK K
                refine norm_ (a' := ?_) ?_ ?_
                rotate_left
                ·show Act.put _ (some 8) _ = _
                 simp only [Act.put,List.setIfInBounds_toArray,List.set_cons_zero,List.set_cons_succ,i64_w,i32_w]
                 rfl
                exact norm_ (by first | (simp only [putAll,Act.put,List.setIfInBounds_toArray,List.set_cons_zero,List.set_cons_succ]; done) | (simp only [putAll,Act.put,List.setIfInBounds_toArray,List.set_cons_zero,List.set_cons_succ]; rfl)) (hJ18_19_20 (gb140,gb141,gb142) _ ⟨hHeld,(by (with_reducible repeat (first | refine blk_drewN ?_ _ | refine blk_drew ?_ | refine blk_alloc ?_ _)); exact BK140.out),(by (with_reducible repeat (first | refine blk_drewN ?_ _ | refine blk_drew ?_ | refine blk_alloc ?_ _)); exact BK141.out),(by (with_reducible repeat (first | refine blk_drewN ?_ _ | refine blk_drew ?_ | refine blk_alloc ?_ _)); exact BK142.out),GW140.out,GE140.out,NB141_140.out,NB140_141.out,NB142_140.out,NB140_142.out,GW141.out,GE141.out,NB142_141.out,NB141_142.out,GW142.out,GE142.out,(by repeat (first | (with_reducible first | exact HB.out | apply below_alloc | apply pw_below_drewN | apply below_drew1 | refine below_set ?_ GE140.out | refine below_set ?_ GE141.out | refine below_set ?_ GE142.out) | exact HB.out))⟩)
              rintro ⟨gb140,gb141,gb142⟩ w20 ⟨hS_,h0_,h1_,h2_,h3_,h4_,h5_,h6_,h7_,h8_,h9_,h10_,h11_,h12_,h13_,h14_,h15_⟩
              have n0_ : Aside0 (w20.heap[gb140]? = some (.cells #[.int .i64 0,.int .i64 0] 40 (0,0))) := ⟨h0_⟩
              have n1_ : Aside0 (w20.heap[gb141]? = some (.cells #[.int .i64 0,.int .i64 0] 40 (0,0))) := ⟨h1_⟩
              have n2_ : Aside0 (w20.heap[gb142]? = some (.cells #[.int .i64 0,.int .i64 0] 40 (0,0))) := ⟨h2_⟩
              have n3_ : Aside0 (w.heap.size ≤ gb140) := ⟨h3_⟩
              have n4_ : Aside0 (w.heap.size ≤ gb140) := ⟨h4_⟩
              have n5_ : Aside0 (gb141 ≠ gb140) := ⟨h5_⟩
              have n6_ : Aside0 (gb140 ≠ gb141) := ⟨h6_⟩
              have n7_ : Aside0 (gb142 ≠ gb140) := ⟨h7_⟩
              have n8_ : Aside0 (gb140 ≠ gb142) := ⟨h8_⟩
              have n9_ : Aside0 (w.heap.size ≤ gb141) := ⟨h9_⟩
              have n10_ : Aside0 (w.heap.size ≤ gb141) := ⟨h10_⟩
              have n11_ : Aside0 (gb142 ≠ gb141) := ⟨h11_⟩
              have n12_ : Aside0 (gb141 ≠ gb142) := ⟨h12_⟩
              have n13_ : Aside0 (w.heap.size ≤ gb142) := ⟨h13_⟩
              have n14_ : Aside0 (w.heap.size ≤ gb142) := ⟨h14_⟩
              have n15_ : Aside0 (Below w.heap.size w w20) := ⟨h15_⟩
              clear HB
              clear h0_ h1_ h2_ h3_ h4_ h5_ h6_ h7_ h8_ h9_ h10_ h11_ h12_ h13_ h14_ h15_
              have BK140 := n0_
              have BK141 := n1_
              have BK142 := n2_
              have GW140 := n3_
              have GE140 := n4_
              have NB141_140 := n5_
              have NB140_141 := n6_
              have NB142_140 := n7_
              have NB140_142 := n8_
              have GW141 := n9_
              have GE141 := n10_
              have NB142_141 := n11_
              have NB141_142 := n12_
              have GW142 := n13_
              have GE142 := n14_
              have HB := n15_
              clear n0_ n1_ n2_ n3_ n4_ n5_ n6_ n7_ n8_ n9_ n10_ n11_ n12_ n13_ n14_ n15_
              have hHeld : w20.cell? (ad137.add ((x5_2).toNat * 2)) = some (.int .i64 ((rd_T40 l0 x5_2).f0)) ∧ w20.cell? ⟨(ad137.add ((x5_2).toNat * 2)).block,(ad137.add ((x5_2).toNat * 2)).off + 1,none⟩ = some (.int .i64 ((rd_T40 l0 x5_2).f1)) ∧ w20.cell? (ad137.add (((ji9)).toNat * 2)) = some (.int .i64 ((rd_T40 l0 (ji9)).f0)) ∧ w20.cell? ⟨(ad137.add (((ji9)).toNat * 2)).block,(ad137.add (((ji9)).toNat * 2)).off + 1,none⟩ = some (.int .i64 ((rd_T40 l0 (ji9)).f1)) ∧ w20.cell? (ad137.add (((ji12)).toNat * 2)) = some (.int .i64 ((rd_T40 l0 (ji12)).f0)) ∧ w20.cell? ⟨(ad137.add (((ji12)).toNat * 2)).block,(ad137.add (((ji12)).toNat * 2)).off + 1,none⟩ = some (.int .i64 ((rd_T40 l0 (ji12)).f1)) := hS_
              refine norm_ (a' := ?_) ?_ ?_
              rotate_left
              ·simp only [putAll,Act.put,List.setIfInBounds_toArray,List.set_cons_zero,List.set_cons_succ]
               rfl
              refine one_ (i := 21) (N := none) #[true,true,true,true,true,true,true,true,true,true,true,true,true,true,true,true,true,true,true,true,true,true,false,false] rfl rfl (one_of HT_.out (by kernel_rfl)) (by decide) (fun K hK => ?_)
              have hs21 : w20.cell? ⟨gb140,0,none⟩ = some (.int .i64 0) := (blk_cell BK140.out 0).trans rfl
              have hfs21 := blk_frozen BK140.out 0
              have hns21_1 := NB141_140.out
              have hns21_2 := NB142_140.out
              have hms21_1 := NB140_141.out
              have hms21_2 := NB140_142.out
              have hs22 : w20.cell? ⟨gb140,1,none⟩ = some (.int .i64 0) := (blk_cell BK140.out 1).trans rfl
              have hfs22 := blk_frozen BK140.out 1
              have hns22_1 := NB141_140.out
              have hns22_2 := NB142_140.out
              have hms22_1 := NB140_141.out
              have hms22_2 := NB140_142.out
              refine skip_ (w1 := ?_) (by rfl) rfl ?_ ?_
              rotate_left
              ·go_simp
               rfl
              refine hK.out _ _ ⟨((cell_far (p := ⟨gb140,_,none⟩) (by first | exact Nat.ne_of_lt (Nat.lt_of_lt_of_le (by have := World.block_lt_of_cell? _ _ hw137_0; first | rwa [add_block] at this | exact this) GW140.out) | (rw [add_block]; exact Nat.ne_of_lt (Nat.lt_of_lt_of_le (by have := World.block_lt_of_cell? _ _ hw137_0; first | rwa [add_block] at this | exact this) GW140.out)) | (show (Addr.add _ _).block ≠ _; rw [add_block]; exact Nat.ne_of_lt (Nat.lt_of_lt_of_le (by have := World.block_lt_of_cell? _ _ hw137_0; first | rwa [add_block] at this | exact this) GW140.out)) | (dsimp only; exact Nat.ne_of_lt (Nat.lt_of_lt_of_le (by have := World.block_lt_of_cell? _ _ hw137_0; first | rwa [add_block] at this | exact this) GW140.out))) _).trans (((cell_far (p := ⟨gb140,_,none⟩) (by first | exact Nat.ne_of_lt (Nat.lt_of_lt_of_le (by have := World.block_lt_of_cell? _ _ hw137_0; first | rwa [add_block] at this | exact this) GW140.out) | (rw [add_block]; exact Nat.ne_of_lt (Nat.lt_of_lt_of_le (by have := World.block_lt_of_cell? _ _ hw137_0; first | rwa [add_block] at this | exact this) GW140.out)) | (show (Addr.add _ _).block ≠ _; rw [add_block]; exact Nat.ne_of_lt (Nat.lt_of_lt_of_le (by have := World.block_lt_of_cell? _ _ hw137_0; first | rwa [add_block] at this | exact this) GW140.out)) | (dsimp only; exact Nat.ne_of_lt (Nat.lt_of_lt_of_le (by have := World.block_lt_of_cell? _ _ hw137_0; first | rwa [add_block] at this | exact this) GW140.out))) _).trans (hHeld.1)))),((cell_far (p := ⟨gb140,_,none⟩) (by first | exact Nat.ne_of_lt (Nat.lt_of_lt_of_le (by have := World.block_lt_of_cell? _ _ hw137_1; first | rwa [add_block] at this | exact this) GW140.out) | (rw [add_block]; exact Nat.ne_of_lt (Nat.lt_of_lt_of_le (by have := World.block_lt_of_cell? _ _ hw137_1; first | rwa [add_block] at this | exact this) GW140.out)) | (show (Addr.add _ _).block ≠ _; rw [add_block]; exact Nat.ne_of_lt (Nat.lt_of_lt_of_le (by have := World.block_lt_of_cell? _ _ hw137_1; first | rwa [add_block] at this | exact this) GW140.out)) | (dsimp only; exact Nat.ne_of_lt (Nat.lt_of_lt_of_le (by have := World.block_lt_of_cell? _ _ hw137_1; first | rwa [add_block] at this | exact this) GW140.out))) _).trans (((cell_far (p := ⟨gb140,_,none⟩) (by first | exact Nat.ne_of_lt (Nat.lt_of_lt_of_le (by have := World.block_lt_of_cell? _ _ hw137_1; first | rwa [add_block] at this | exact this) GW140.out) | (rw [add_block]; exact Nat.ne_of_lt (Nat.lt_of_lt_of_le (by have := World.block_lt_of_cell? _ _ hw137_1; first | rwa [add_block] at this | exact this) GW140.out)) | (show (Addr.add _ _).block ≠ _; rw [add_block]; exact Nat.ne_of_lt (Nat.lt_of_lt_of_le (by have := World.block_lt_of_cell? _ _ hw137_1; first | rwa [add_block] at this | exact this) GW140.out)) | (dsimp only; exact Nat.ne_of_lt (Nat.lt_of_lt_of_le (by have := World.block_lt_of_cell? _ _ hw137_1; first | rwa [add_block] at this | exact this) GW140.out))) _).trans (hHeld.2.1)))),((cell_far (p := ⟨gb140,_,none⟩) (by first | exact Nat.ne_of_lt (Nat.lt_of_lt_of_le (by have := World.block_lt_of_cell? _ _ hw138_0; first | rwa [add_block] at this | exact this) GW140.out) | (rw [add_block]; exact Nat.ne_of_lt (Nat.lt_of_lt_of_le (by have := World.block_lt_of_cell? _ _ hw138_0; first | rwa [add_block] at this | exact this) GW140.out)) | (show (Addr.add _ _).block ≠ _; rw [add_block]; exact Nat.ne_of_lt (Nat.lt_of_lt_of_le (by have := World.block_lt_of_cell? _ _ hw138_0; first | rwa [add_block] at this | exact this) GW140.out)) | (dsimp only; exact Nat.ne_of_lt (Nat.lt_of_lt_of_le (by have := World.block_lt_of_cell? _ _ hw138_0; first | rwa [add_block] at this | exact this) GW140.out))) _).trans (((cell_far (p := ⟨gb140,_,none⟩) (by first | exact Nat.ne_of_lt (Nat.lt_of_lt_of_le (by have := World.block_lt_of_cell? _ _ hw138_0; first | rwa [add_block] at this | exact this) GW140.out) | (rw [add_block]; exact Nat.ne_of_lt (Nat.lt_of_lt_of_le (by have := World.block_lt_of_cell? _ _ hw138_0; first | rwa [add_block] at this | exact this) GW140.out)) | (show (Addr.add _ _).block ≠ _; rw [add_block]; exact Nat.ne_of_lt (Nat.lt_of_lt_of_le (by have := World.block_lt_of_cell? _ _ hw138_0; first | rwa [add_block] at this | exact this) GW140.out)) | (dsimp only; exact Nat.ne_of_lt (Nat.lt_of_lt_of_le (by have := World.block_lt_of_cell? _ _ hw138_0; first | rwa [add_block] at this | exact this) GW140.out))) _).trans (hHeld.2.2.1)))),((cell_far (p := ⟨gb140,_,none⟩) (by first | exact Nat.ne_of_lt (Nat.lt_of_lt_of_le (by have := World.block_lt_of_cell? _ _ hw138_1; first | rwa [add_block] at this | exact this) GW140.out) | (rw [add_block]; exact Nat.ne_of_lt (Nat.lt_of_lt_of_le (by have := World.block_lt_of_cell? _ _ hw138_1; first | rwa [add_block] at this | exact this) GW140.out)) | (show (Addr.add _ _).block ≠ _; rw [add_block]; exact Nat.ne_of_lt (Nat.lt_of_lt_of_le (by have := World.block_lt_of_cell? _ _ hw138_1; first | rwa [add_block] at this | exact this) GW140.out)) | (dsimp only; exact Nat.ne_of_lt (Nat.lt_of_lt_of_le (by have := World.block_lt_of_cell? _ _ hw138_1; first | rwa [add_block] at this | exact this) GW140.out))) _).trans (((cell_far (p := ⟨gb140,_,none⟩) (by first | exact Nat.ne_of_lt (Nat.lt_of_lt_of_le (by have := World.block_lt_of_cell? _ _ hw138_1; first | rwa [add_block] at this | exact this) GW140.out) | (rw [add_block]; exact Nat.ne_of_lt (Nat.lt_of_lt_of_le (by have := World.block_lt_of_cell? _ _ hw138_1; first | rwa [add_block] at this | exact this) GW140.out)) | (show (Addr.add _ _).block ≠ _; rw [add_block]; exact Nat.ne_of_lt (Nat.lt_of_lt_of_le (by have := World.block_lt_of_cell? _ _ hw138_1; first | rwa [add_block] at this | exact this) GW140.out)) | (dsimp only; exact Nat.ne_of_lt (Nat.lt_of_lt_of_le (by have := World.block_lt_of_cell? _ _ hw138_1; first | rwa [add_block] at this | exact this) GW140.out))) _).trans (hHeld.2.2.2.1)))),((cell_far (p := ⟨gb140,_,none⟩) (by first | exact Nat.ne_of_lt (Nat.lt_of_lt_of_le (by have := World.block_lt_of_cell? _ _ hw139_0; first | rwa [add_block] at this | exact this) GW140.out) | (rw [add_block]; exact Nat.ne_of_lt (Nat.lt_of_lt_of_le (by have := World.block_lt_of_cell? _ _ hw139_0; first | rwa [add_block] at this | exact this) GW140.out)) | (show (Addr.add _ _).block ≠ _; rw [add_block]; exact Nat.ne_of_lt (Nat.lt_of_lt_of_le (by have := World.block_lt_of_cell? _ _ hw139_0; first | rwa [add_block] at this | exact this) GW140.out)) | (dsimp only; exact Nat.ne_of_lt (Nat.lt_of_lt_of_le (by have := World.block_lt_of_cell? _ _ hw139_0; first | rwa [add_block] at this | exact this) GW140.out))) _).trans (((cell_far (p := ⟨gb140,_,none⟩) (by first | exact Nat.ne_of_lt (Nat.lt_of_lt_of_le (by have := World.block_lt_of_cell? _ _ hw139_0; first | rwa [add_block] at this | exact this) GW140.out) | (rw [add_block]; exact Nat.ne_of_lt (Nat.lt_of_lt_of_le (by have := World.block_lt_of_cell? _ _ hw139_0; first | rwa [add_block] at this | exact this) GW140.out)) | (show (Addr.add _ _).block ≠ _; rw [add_block]; exact Nat.ne_of_lt (Nat.lt_of_lt_of_le (by have := World.block_lt_of_cell? _ _ hw139_0; first | rwa [add_block] at this | exact this) GW140.out)) | (dsimp only; exact Nat.ne_of_lt (Nat.lt_of_lt_of_le (by have := World.block_lt_of_cell? _ _ hw139_0; first | rwa [add_block] at this | exact this) GW140.out))) _).trans (hHeld.2.2.2.2.1)))),((cell_far (p := ⟨gb140,_,none⟩) (by first | exact Nat.ne_of_lt (Nat.lt_of_lt_of_le (by have := World.block_lt_of_cell? _ _ hw139_1; first | rwa [add_block] at this | exact this) GW140.out) | (rw [add_block]; exact Nat.ne_of_lt (Nat.lt_of_lt_of_le (by have := World.block_lt_of_cell? _ _ hw139_1; first | rwa [add_block] at this | exact this) GW140.out)) | (show (Addr.add _ _).block ≠ _; rw [add_block]; exact Nat.ne_of_lt (Nat.lt_of_lt_of_le (by have := World.block_lt_of_cell? _ _ hw139_1; first | rwa [add_block] at this | exact this) GW140.out)) | (dsimp only; exact Nat.ne_of_lt (Nat.lt_of_lt_of_le (by have := World.block_lt_of_cell? _ _ hw139_1; first | rwa [add_block] at this | exact this) GW140.out))) _).trans (((cell_far (p := ⟨gb140,_,none⟩) (by first | exact Nat.ne_of_lt (Nat.lt_of_lt_of_le (by have := World.block_lt_of_cell? _ _ hw139_1; first | rwa [add_block] at this | exact this) GW140.out) | (rw [add_block]; exact Nat.ne_of_lt (Nat.lt_of_lt_of_le (by have := World.block_lt_of_cell? _ _ hw139_1; first | rwa [add_block] at this | exact this) GW140.out)) | (show (Addr.add _ _).block ≠ _; rw [add_block]; exact Nat.ne_of_lt (Nat.lt_of_lt_of_le (by have := World.block_lt_of_cell? _ _ hw139_1; first | rwa [add_block] at this | exact this) GW140.out)) | (dsimp only; exact Nat.ne_of_lt (Nat.lt_of_lt_of_le (by have := World.block_lt_of_cell? _ _ hw139_1; first | rwa [add_block] at this | exact this) GW140.out))) _).trans (hHeld.2.2.2.2.2))))⟩ (fun hHeld => ?_)
              clear hK K
              refine one_ (i := 22) (N := none) #[true,true,true,true,true,true,true,true,true,true,true,true,true,true,true,true,true,true,true,true,true,true,true,false] rfl rfl (one_of HT_.out (by kernel_rfl)) (by decide) (fun K hK => ?_)
              have hs23 : w20.cell? ⟨gb141,0,none⟩ = some (.int .i64 0) := (blk_cell BK141.out 0).trans rfl
              have hfs23 := blk_frozen BK141.out 0
              have hns23_0 := NB140_141.out
              have hns23_2 := NB142_141.out
              have hms23_0 := NB141_140.out
              have hms23_2 := NB141_142.out
              have hs24 : w20.cell? ⟨gb141,1,none⟩ = some (.int .i64 0) := (blk_cell BK141.out 1).trans rfl
              have hfs24 := blk_frozen BK141.out 1
              have hns24_0 := NB140_141.out
              have hns24_2 := NB142_141.out
              have hms24_0 := NB141_140.out
              have hms24_2 := NB141_142.out
              refine skip_ (w1 := ?_) (by rfl) rfl ?_ ?_
              rotate_left
              ·go_simp
               rfl
              refine hK.out _ _ ⟨((cell_far (p := ⟨gb141,_,none⟩) (by first | exact Nat.ne_of_lt (Nat.lt_of_lt_of_le (by have := World.block_lt_of_cell? _ _ hw137_0; first | rwa [add_block] at this | exact this) GW141.out) | (rw [add_block]; exact Nat.ne_of_lt (Nat.lt_of_lt_of_le (by have := World.block_lt_of_cell? _ _ hw137_0; first | rwa [add_block] at this | exact this) GW141.out)) | (show (Addr.add _ _).block ≠ _; rw [add_block]; exact Nat.ne_of_lt (Nat.lt_of_lt_of_le (by have := World.block_lt_of_cell? _ _ hw137_0; first | rwa [add_block] at this | exact this) GW141.out)) | (dsimp only; exact Nat.ne_of_lt (Nat.lt_of_lt_of_le (by have := World.block_lt_of_cell? _ _ hw137_0; first | rwa [add_block] at this | exact this) GW141.out))) _).trans (((cell_far (p := ⟨gb141,_,none⟩) (by first | exact Nat.ne_of_lt (Nat.lt_of_lt_of_le (by have := World.block_lt_of_cell? _ _ hw137_0; first | rwa [add_block] at this | exact this) GW141.out) | (rw [add_block]; exact Nat.ne_of_lt (Nat.lt_of_lt_of_le (by have := World.block_lt_of_cell? _ _ hw137_0; first | rwa [add_block] at this | exact this) GW141.out)) | (show (Addr.add _ _).block ≠ _; rw [add_block]; exact Nat.ne_of_lt (Nat.lt_of_lt_of_le (by have := World.block_lt_of_cell? _ _ hw137_0; first | rwa [add_block] at this | exact this) GW141.out)) | (dsimp only; exact Nat.ne_of_lt (Nat.lt_of_lt_of_le (by have := World.block_lt_of_cell? _ _ hw137_0; first | rwa [add_block] at this | exact this) GW141.out))) _).trans (hHeld.1)))),((cell_far (p := ⟨gb141,_,none⟩) (by first | exact Nat.ne_of_lt (Nat.lt_of_lt_of_le (by have := World.block_lt_of_cell? _ _ hw137_1; first | rwa [add_block] at this | exact this) GW141.out) | (rw [add_block]; exact Nat.ne_of_lt (Nat.lt_of_lt_of_le (by have := World.block_lt_of_cell? _ _ hw137_1; first | rwa [add_block] at this | exact this) GW141.out)) | (show (Addr.add _ _).block ≠ _; rw [add_block]; exact Nat.ne_of_lt (Nat.lt_of_lt_of_le (by have := World.block_lt_of_cell? _ _ hw137_1; first | rwa [add_block] at this | exact this) GW141.out)) | (dsimp only; exact Nat.ne_of_lt (Nat.lt_of_lt_of_le (by have := World.block_lt_of_cell? _ _ hw137_1; first | rwa [add_block] at this | exact this) GW141.out))) _).trans (((cell_far (p := ⟨gb141,_,none⟩) (by first | exact Nat.ne_of_lt (Nat.lt_of_lt_of_le (by have := World.block_lt_of_cell? _ _ hw137_1; first | rwa [add_block] at this | exact this) GW141.out) | (rw [add_block]; exact Nat.ne_of_lt (Nat.lt_of_lt_of_le (by have := World.block_lt_of_cell? _ _ hw137_1; first | rwa [add_block] at this | exact this) GW141.out)) | (show (Addr.add _ _).block ≠ _; rw [add_block]; exact Nat.ne_of_lt (Nat.lt_of_lt_of_le (by have := World.block_lt_of_cell? _ _ hw137_1; first | rwa [add_block] at this | exact this) GW141.out)) | (dsimp only; exact Nat.ne_of_lt (Nat.lt_of_lt_of_le (by have := World.block_lt_of_cell? _ _ hw137_1; first | rwa [add_block] at this | exact this) GW141.out))) _).trans (hHeld.2.1)))),((cell_far (p := ⟨gb141,_,none⟩) (by first | exact Nat.ne_of_lt (Nat.lt_of_lt_of_le (by have := World.block_lt_of_cell? _ _ hw138_0; first | rwa [add_block] at this | exact this) GW141.out) | (rw [add_block]; exact Nat.ne_of_lt (Nat.lt_of_lt_of_le (by have := World.block_lt_of_cell? _ _ hw138_0; first | rwa [add_block] at this | exact this) GW141.out)) | (show (Addr.add _ _).block ≠ _; rw [add_block]; exact Nat.ne_of_lt (Nat.lt_of_lt_of_le (by have := World.block_lt_of_cell? _ _ hw138_0; first | rwa [add_block] at this | exact this) GW141.out)) | (dsimp only; exact Nat.ne_of_lt (Nat.lt_of_lt_of_le (by have := World.block_lt_of_cell? _ _ hw138_0; first | rwa [add_block] at this | exact this) GW141.out))) _).trans (((cell_far (p := ⟨gb141,_,none⟩) (by first | exact Nat.ne_of_lt (Nat.lt_of_lt_of_le (by have := World.block_lt_of_cell? _ _ hw138_0; first | rwa [add_block] at this | exact this) GW141.out) | (rw [add_block]; exact Nat.ne_of_lt (Nat.lt_of_lt_of_le (by have := World.block_lt_of_cell? _ _ hw138_0; first | rwa [add_block] at this | exact this) GW141.out)) | (show (Addr.add _ _).block ≠ _; rw [add_block]; exact Nat.ne_of_lt (Nat.lt_of_lt_of_le (by have := World.block_lt_of_cell? _ _ hw138_0; first | rwa [add_block] at this | exact this) GW141.out)) | (dsimp only; exact Nat.ne_of_lt (Nat.lt_of_lt_of_le (by have := World.block_lt_of_cell? _ _ hw138_0; first | rwa [add_block] at this | exact this) GW141.out))) _).trans (hHeld.2.2.1)))),((cell_far (p := ⟨gb141,_,none⟩) (by first | exact Nat.ne_of_lt (Nat.lt_of_lt_of_le (by have := World.block_lt_of_cell? _ _ hw138_1; first | rwa [add_block] at this | exact this) GW141.out) | (rw [add_block]; exact Nat.ne_of_lt (Nat.lt_of_lt_of_le (by have := World.block_lt_of_cell? _ _ hw138_1; first | rwa [add_block] at this | exact this) GW141.out)) | (show (Addr.add _ _).block ≠ _; rw [add_block]; exact Nat.ne_of_lt (Nat.lt_of_lt_of_le (by have := World.block_lt_of_cell? _ _ hw138_1; first | rwa [add_block] at this | exact this) GW141.out)) | (dsimp only; exact Nat.ne_of_lt (Nat.lt_of_lt_of_le (by have := World.block_lt_of_cell? _ _ hw138_1; first | rwa [add_block] at this | exact this) GW141.out))) _).trans (((cell_far (p := ⟨gb141,_,none⟩) (by first | exact Nat.ne_of_lt (Nat.lt_of_lt_of_le (by have := World.block_lt_of_cell? _ _ hw138_1; first | rwa [add_block] at this | exact this) GW141.out) | (rw [add_block]; exact Nat.ne_of_lt (Nat.lt_of_lt_of_le (by have := World.block_lt_of_cell? _ _ hw138_1; first | rwa [add_block] at this | exact this) GW141.out)) | (show (Addr.add _ _).block ≠ _; rw [add_block]; exact Nat.ne_of_lt (Nat.lt_of_lt_of_le (by have := World.block_lt_of_cell? _ _ hw138_1; first | rwa [add_block] at this | exact this) GW141.out)) | (dsimp only; exact Nat.ne_of_lt (Nat.lt_of_lt_of_le (by have := World.block_lt_of_cell? _ _ hw138_1; first | rwa [add_block] at this | exact this) GW141.out))) _).trans (hHeld.2.2.2.1)))),((cell_far (p := ⟨gb141,_,none⟩) (by first | exact Nat.ne_of_lt (Nat.lt_of_lt_of_le (by have := World.block_lt_of_cell? _ _ hw139_0; first | rwa [add_block] at this | exact this) GW141.out) | (rw [add_block]; exact Nat.ne_of_lt (Nat.lt_of_lt_of_le (by have := World.block_lt_of_cell? _ _ hw139_0; first | rwa [add_block] at this | exact this) GW141.out)) | (show (Addr.add _ _).block ≠ _; rw [add_block]; exact Nat.ne_of_lt (Nat.lt_of_lt_of_le (by have := World.block_lt_of_cell? _ _ hw139_0; first | rwa [add_block] at this | exact this) GW141.out)) | (dsimp only; exact Nat.ne_of_lt (Nat.lt_of_lt_of_le (by have := World.block_lt_of_cell? _ _ hw139_0; first | rwa [add_block] at this | exact this) GW141.out))) _).trans (((cell_far (p := ⟨gb141,_,none⟩) (by first | exact Nat.ne_of_lt (Nat.lt_of_lt_of_le (by have := World.block_lt_of_cell? _ _ hw139_0; first | rwa [add_block] at this | exact this) GW141.out) | (rw [add_block]; exact Nat.ne_of_lt (Nat.lt_of_lt_of_le (by have := World.block_lt_of_cell? _ _ hw139_0; first | rwa [add_block] at this | exact this) GW141.out)) | (show (Addr.add _ _).block ≠ _; rw [add_block]; exact Nat.ne_of_lt (Nat.lt_of_lt_of_le (by have := World.block_lt_of_cell? _ _ hw139_0; first | rwa [add_block] at this | exact this) GW141.out)) | (dsimp only; exact Nat.ne_of_lt (Nat.lt_of_lt_of_le (by have := World.block_lt_of_cell? _ _ hw139_0; first | rwa [add_block] at this | exact this) GW141.out))) _).trans (hHeld.2.2.2.2.1)))),((cell_far (p := ⟨gb141,_,none⟩) (by first | exact Nat.ne_of_lt (Nat.lt_of_lt_of_le (by have := World.block_lt_of_cell? _ _ hw139_1; first | rwa [add_block] at this | exact this) GW141.out) | (rw [add_block]; exact Nat.ne_of_lt (Nat.lt_of_lt_of_le (by have := World.block_lt_of_cell? _ _ hw139_1; first | rwa [add_block] at this | exact this) GW141.out)) | (show (Addr.add _ _).block ≠ _; rw [add_block]; exact Nat.ne_of_lt (Nat.lt_of_lt_of_le (by have := World.block_lt_of_cell? _ _ hw139_1; first | rwa [add_block] at this | exact this) GW141.out)) | (dsimp only; exact Nat.ne_of_lt (Nat.lt_of_lt_of_le (by have := World.block_lt_of_cell? _ _ hw139_1; first | rwa [add_block] at this | exact this) GW141.out))) _).trans (((cell_far (p := ⟨gb141,_,none⟩) (by first | exact Nat.ne_of_lt (Nat.lt_of_lt_of_le (by have := World.block_lt_of_cell? _ _ hw139_1; first | rwa [add_block] at this | exact this) GW141.out) | (rw [add_block]; exact Nat.ne_of_lt (Nat.lt_of_lt_of_le (by have := World.block_lt_of_cell? _ _ hw139_1; first | rwa [add_block] at this | exact this) GW141.out)) | (show (Addr.add _ _).block ≠ _; rw [add_block]; exact Nat.ne_of_lt (Nat.lt_of_lt_of_le (by have := World.block_lt_of_cell? _ _ hw139_1; first | rwa [add_block] at this | exact this) GW141.out)) | (dsimp only; exact Nat.ne_of_lt (Nat.lt_of_lt_of_le (by have := World.block_lt_of_cell? _ _ hw139_1; first | rwa [add_block] at this | exact this) GW141.out))) _).trans (hHeld.2.2.2.2.2))))⟩ (fun hHeld => ?_)
              clear hK K
              refine one_ (i := 23) (N := none) #[true,true,true,true,true,true,true,true,true,true,true,true,true,true,true,true,true,true,true,true,true,true,true,true] rfl rfl (one_of HT_.out (by kernel_rfl)) (by decide) (fun K hK => ?_)
              have hs25 : w20.cell? ⟨gb142,0,none⟩ = some (.int .i64 0) := (blk_cell BK142.out 0).trans rfl
              have hfs25 := blk_frozen BK142.out 0
              have hns25_0 := NB140_142.out
              have hns25_1 := NB141_142.out
              have hms25_0 := NB142_140.out
              have hms25_1 := NB142_141.out
              have hs26 : w20.cell? ⟨gb142,1,none⟩ = some (.int .i64 0) := (blk_cell BK142.out 1).trans rfl
              have hfs26 := blk_frozen BK142.out 1
              have hns26_0 := NB140_142.out
              have hns26_1 := NB141_142.out
              have hms26_0 := NB142_140.out
              have hms26_1 := NB142_141.out
              refine skip_ (w1 := ?_) (by rfl) rfl ?_ ?_
              rotate_left
              ·go_simp
               rfl
              refine hK.out _ _ ⟨((cell_far (p := ⟨gb142,_,none⟩) (by first | exact Nat.ne_of_lt (Nat.lt_of_lt_of_le (by have := World.block_lt_of_cell? _ _ hw137_0; first | rwa [add_block] at this | exact this) GW142.out) | (rw [add_block]; exact Nat.ne_of_lt (Nat.lt_of_lt_of_le (by have := World.block_lt_of_cell? _ _ hw137_0; first | rwa [add_block] at this | exact this) GW142.out)) | (show (Addr.add _ _).block ≠ _; rw [add_block]; exact Nat.ne_of_lt (Nat.lt_of_lt_of_le (by have := World.block_lt_of_cell? _ _ hw137_0; first | rwa [add_block] at this | exact this) GW142.out)) | (dsimp only; exact Nat.ne_of_lt (Nat.lt_of_lt_of_le (by have := World.block_lt_of_cell? _ _ hw137_0; first | rwa [add_block] at this | exact this) GW142.out))) _).trans (((cell_far (p := ⟨gb142,_,none⟩) (by first | exact Nat.ne_of_lt (Nat.lt_of_lt_of_le (by have := World.block_lt_of_cell? _ _ hw137_0; first | rwa [add_block] at this | exact this) GW142.out) | (rw [add_block]; exact Nat.ne_of_lt (Nat.lt_of_lt_of_le (by have := World.block_lt_of_cell? _ _ hw137_0; first | rwa [add_block] at this | exact this) GW142.out)) | (show (Addr.add _ _).block ≠ _; rw [add_block]; exact Nat.ne_of_lt (Nat.lt_of_lt_of_le (by have := World.block_lt_of_cell? _ _ hw137_0; first | rwa [add_block] at this | exact this) GW142.out)) | (dsimp only; exact Nat.ne_of_lt (Nat.lt_of_lt_of_le (by have := World.block_lt_of_cell? _ _ hw137_0; first | rwa [add_block] at this | exact this) GW142.out))) _).trans (hHeld.1)))),((cell_far (p := ⟨gb142,_,none⟩) (by first | exact Nat.ne_of_lt (Nat.lt_of_lt_of_le (by have := World.block_lt_of_cell? _ _ hw137_1; first | rwa [add_block] at this | exact this) GW142.out) | (rw [add_block]; exact Nat.ne_of_lt (Nat.lt_of_lt_of_le (by have := World.block_lt_of_cell? _ _ hw137_1; first | rwa [add_block] at this | exact this) GW142.out)) | (show (Addr.add _ _).block ≠ _; rw [add_block]; exact Nat.ne_of_lt (Nat.lt_of_lt_of_le (by have := World.block_lt_of_cell? _ _ hw137_1; first | rwa [add_block] at this | exact this) GW142.out)) | (dsimp only; exact Nat.ne_of_lt (Nat.lt_of_lt_of_le (by have := World.block_lt_of_cell? _ _ hw137_1; first | rwa [add_block] at this | exact this) GW142.out))) _).trans (((cell_far (p := ⟨gb142,_,none⟩) (by first | exact Nat.ne_of_lt (Nat.lt_of_lt_of_le (by have := World.block_lt_of_cell? _ _ hw137_1; first | rwa [add_block] at this | exact this) GW142.out) | (rw [add_block]; exact Nat.ne_of_lt (Nat.lt_of_lt_of_le (by have := World.block_lt_of_cell? _ _ hw137_1; first | rwa [add_block] at this | exact this) GW142.out)) | (show (Addr.add _ _).block ≠ _; rw [add_block]; exact Nat.ne_of_lt (Nat.lt_of_lt_of_le (by have := World.block_lt_of_cell? _ _ hw137_1; first | rwa [add_block] at this | exact this) GW142.out)) | (dsimp only; exact Nat.ne_of_lt (Nat.lt_of_lt_of_le (by have := World.block_lt_of_cell? _ _ hw137_1; first | rwa [add_block] at this | exact this) GW142.out))) _).trans (hHeld.2.1)))),((cell_far (p := ⟨gb142,_,none⟩) (by first | exact Nat.ne_of_lt (Nat.lt_of_lt_of_le (by have := World.block_lt_of_cell? _ _ hw138_0; first | rwa [add_block] at this | exact this) GW142.out) | (rw [add_block]; exact Nat.ne_of_lt (Nat.lt_of_lt_of_le (by have := World.block_lt_of_cell? _ _ hw138_0; first | rwa [add_block] at this | exact this) GW142.out)) | (show (Addr.add _ _).block ≠ _; rw [add_block]; exact Nat.ne_of_lt (Nat.lt_of_lt_of_le (by have := World.block_lt_of_cell? _ _ hw138_0; first | rwa [add_block] at this | exact this) GW142.out)) | (dsimp only; exact Nat.ne_of_lt (Nat.lt_of_lt_of_le (by have := World.block_lt_of_cell? _ _ hw138_0; first | rwa [add_block] at this | exact this) GW142.out))) _).trans (((cell_far (p := ⟨gb142,_,none⟩) (by first | exact Nat.ne_of_lt (Nat.lt_of_lt_of_le (by have := World.block_lt_of_cell? _ _ hw138_0; first | rwa [add_block] at this | exact this) GW142.out) | (rw [add_block]; exact Nat.ne_of_lt (Nat.lt_of_lt_of_le (by have := World.block_lt_of_cell? _ _ hw138_0; first | rwa [add_block] at this | exact this) GW142.out)) | (show (Addr.add _ _).block ≠ _; rw [add_block]; exact Nat.ne_of_lt (Nat.lt_of_lt_of_le (by have := World.block_lt_of_cell? _ _ hw138_0; first | rwa [add_block] at this | exact this) GW142.out)) | (dsimp only; exact Nat.ne_of_lt (Nat.lt_of_lt_of_le (by have := World.block_lt_of_cell? _ _ hw138_0; first | rwa [add_block] at this | exact this) GW142.out))) _).trans (hHeld.2.2.1)))),((cell_far (p := ⟨gb142,_,none⟩) (by first | exact Nat.ne_of_lt (Nat.lt_of_lt_of_le (by have := World.block_lt_of_cell? _ _ hw138_1; first | rwa [add_block] at this | exact this) GW142.out) | (rw [add_block]; exact Nat.ne_of_lt (Nat.lt_of_lt_of_le (by have := World.block_lt_of_cell? _ _ hw138_1; first | rwa [add_block] at this | exact this) GW142.out)) | (show (Addr.add _ _).block ≠ _; rw [add_block]; exact Nat.ne_of_lt (Nat.lt_of_lt_of_le (by have := World.block_lt_of_cell? _ _ hw138_1; first | rwa [add_block] at this | exact this) GW142.out)) | (dsimp only; exact Nat.ne_of_lt (Nat.lt_of_lt_of_le (by have := World.block_lt_of_cell? _ _ hw138_1; first | rwa [add_block] at this | exact this) GW142.out))) _).trans (((cell_far (p := ⟨gb142,_,none⟩) (by first | exact Nat.ne_of_lt (Nat.lt_of_lt_of_le (by have := World.block_lt_of_cell? _ _ hw138_1; first | rwa [add_block] at this | exact this) GW142.out) | (rw [add_block]; exact Nat.ne_of_lt (Nat.lt_of_lt_of_le (by have := World.block_lt_of_cell? _ _ hw138_1; first | rwa [add_block] at this | exact this) GW142.out)) | (show (Addr.add _ _).block ≠ _; rw [add_block]; exact Nat.ne_of_lt (Nat.lt_of_lt_of_le (by have := World.block_lt_of_cell? _ _ hw138_1; first | rwa [add_block] at this | exact this) GW142.out)) | (dsimp only; exact Nat.ne_of_lt (Nat.lt_of_lt_of_le (by have := World.block_lt_of_cell? _ _ hw138_1; first | rwa [add_block] at this | exact this) GW142.out))) _).trans (hHeld.2.2.2.1)))),((cell_far (p := ⟨gb142,_,none⟩) (by first | exact Nat.ne_of_lt (Nat.lt_of_lt_of_le (by have := World.block_lt_of_cell? _ _ hw139_0; first | rwa [add_block] at this | exact this) GW142.out) | (rw [add_block]; exact Nat.ne_of_lt (Nat.lt_of_lt_of_le (by have := World.block_lt_of_cell? _ _ hw139_0; first | rwa [add_block] at this | exact this) GW142.out)) | (show (Addr.add _ _).block ≠ _; rw [add_block]; exact Nat.ne_of_lt (Nat.lt_of_lt_of_le (by have := World.block_lt_of_cell? _ _ hw139_0; first | rwa [add_block] at this | exact this) GW142.out)) | (dsimp only; exact Nat.ne_of_lt (Nat.lt_of_lt_of_le (by have := World.block_lt_of_cell? _ _ hw139_0; first | rwa [add_block] at this | exact this) GW142.out))) _).trans (((cell_far (p := ⟨gb142,_,none⟩) (by first | exact Nat.ne_of_lt (Nat.lt_of_lt_of_le (by have := World.block_lt_of_cell? _ _ hw139_0; first | rwa [add_block] at this | exact this) GW142.out) | (rw [add_block]; exact Nat.ne_of_lt (Nat.lt_of_lt_of_le (by have := World.block_lt_of_cell? _ _ hw139_0; first | rwa [add_block] at this | exact this) GW142.out)) | (show (Addr.add _ _).block ≠ _; rw [add_block]; exact Nat.ne_of_lt (Nat.lt_of_lt_of_le (by have := World.block_lt_of_cell? _ _ hw139_0; first | rwa [add_block] at this | exact this) GW142.out)) | (dsimp only; exact Nat.ne_of_lt (Nat.lt_of_lt_of_le (by have := World.block_lt_of_cell? _ _ hw139_0; first | rwa [add_block] at this | exact this) GW142.out))) _).trans (hHeld.2.2.2.2.1)))),((cell_far (p := ⟨gb142,_,none⟩) (by first | exact Nat.ne_of_lt (Nat.lt_of_lt_of_le (by have := World.block_lt_of_cell? _ _ hw139_1; first | rwa [add_block] at this | exact this) GW142.out) | (rw [add_block]; exact Nat.ne_of_lt (Nat.lt_of_lt_of_le (by have := World.block_lt_of_cell? _ _ hw139_1; first | rwa [add_block] at this | exact this) GW142.out)) | (show (Addr.add _ _).block ≠ _; rw [add_block]; exact Nat.ne_of_lt (Nat.lt_of_lt_of_le (by have := World.block_lt_of_cell? _ _ hw139_1; first | rwa [add_block] at this | exact this) GW142.out)) | (dsimp only; exact Nat.ne_of_lt (Nat.lt_of_lt_of_le (by have := World.block_lt_of_cell? _ _ hw139_1; first | rwa [add_block] at this | exact this) GW142.out))) _).trans (((cell_far (p := ⟨gb142,_,none⟩) (by first | exact Nat.ne_of_lt (Nat.lt_of_lt_of_le (by have := World.block_lt_of_cell? _ _ hw139_1; first | rwa [add_block] at this | exact this) GW142.out) | (rw [add_block]; exact Nat.ne_of_lt (Nat.lt_of_lt_of_le (by have := World.block_lt_of_cell? _ _ hw139_1; first | rwa [add_block] at this | exact this) GW142.out)) | (show (Addr.add _ _).block ≠ _; rw [add_block]; exact Nat.ne_of_lt (Nat.lt_of_lt_of_le (by have := World.block_lt_of_cell? _ _ hw139_1; first | rwa [add_block] at this | exact this) GW142.out)) | (dsimp only; exact Nat.ne_of_lt (Nat.lt_of_lt_of_le (by have := World.block_lt_of_cell? _ _ hw139_1; first | rwa [add_block] at this | exact this) GW142.out))) _).trans (hHeld.2.2.2.2.2))))⟩ (fun hHeld => ?_)
              clear hK K
              refine done_ (done_of HT_.out (by kernel_rfl)) ?_
              go_upto_region 9 with (fail)
              go_cut [49] (fun v49 wc => ∃ (kq : Nat) (x49_14 : Bool),v49 = .bool x49_14 ∧ Aside0 (spec_l09Is.j2 kq l0 (l0.length : Int) x4_2 x5_2 x49_14 ((rd_T40 l0 x5_2).f0) ((rd_T40 l0 x5_2).f1) ((rd_T40 l0 (ji9)).f0) ((rd_T40 l0 (ji9)).f1) ((rd_T40 l0 (ji12)).f0) ((rd_T40 l0 (ji12)).f1) = some r) ∧ Aside0 (kq ≤ k2) ∧ Aside0 (wc.heap[gb140]? = some (.cells #[.int .i64 ((rd_T40 l0 x5_2).f0),.int .i64 ((rd_T40 l0 x5_2).f1)] 40 (0,0))) ∧ Aside0 (wc.heap[gb141]? = some (.cells #[.int .i64 ((rd_T40 l0 (ji9)).f0),.int .i64 ((rd_T40 l0 (ji9)).f1)] 40 (0,0))) ∧ Aside0 (wc.heap[gb142]? = some (.cells #[.int .i64 ((rd_T40 l0 (ji12)).f0),.int .i64 ((rd_T40 l0 (ji12)).f1)] 40 (0,0))) ∧ Aside0 (Below w.heap.size w wc))
              case first =>
               have H := HC15.out
               clear HC15
               replace H := Option.bind_eq_some_iff.mp H
               obtain ⟨t143,A270,H⟩ := H
               replace H : (if t143 = true then ((spec_l01In.f ((rd_T40 l0 x5_2).f1) (-1000) 1000).bind fun t144 => (spec_l09Is.j2 k2 l0 (l0.length : Int) x4_2 x5_2 (!t144) ((rd_T40 l0 x5_2).f0) ((rd_T40 l0 x5_2).f1) ((rd_T40 l0 (ji9)).f0) ((rd_T40 l0 (ji9)).f1) ((rd_T40 l0 (ji12)).f0) ((rd_T40 l0 (ji12)).f1))) else (spec_l09Is.j2 k2 l0 (l0.length : Int) x4_2 x5_2 true ((rd_T40 l0 x5_2).f0) ((rd_T40 l0 x5_2).f1) ((rd_T40 l0 (ji9)).f0) ((rd_T40 l0 (ji9)).f1) ((rd_T40 l0 (ji12)).f0) ((rd_T40 l0 (ji12)).f1))) = some r := H
               have A27 := Aside0.mk A270
               clear A270
               by_cases c28 : t143 = true
               ·subst c28
                have H1 : ((spec_l01In.f ((rd_T40 l0 x5_2).f1) (-1000) 1000).bind fun t144 => (spec_l09Is.j2 k2 l0 (l0.length : Int) x4_2 x5_2 (!t144) ((rd_T40 l0 x5_2).f0) ((rd_T40 l0 x5_2).f1) ((rd_T40 l0 (ji9)).f0) ((rd_T40 l0 (ji9)).f1) ((rd_T40 l0 (ji12)).f0) ((rd_T40 l0 (ji12)).f1))) = some r := by rw [if_pos rfl] at H; exact H
                clear H
                have H := H1
                clear H1
                replace H := Option.bind_eq_some_iff.mp H
                obtain ⟨t144,A290,H⟩ := H
                replace H : (spec_l09Is.j2 k2 l0 (l0.length : Int) x4_2 x5_2 (!t144) ((rd_T40 l0 x5_2).f0) ((rd_T40 l0 x5_2).f1) ((rd_T40 l0 (ji9)).f0) ((rd_T40 l0 (ji9)).f1) ((rd_T40 l0 (ji12)).f0) ((rd_T40 l0 (ji12)).f1)) = some r := H
                have A29 := Aside0.mk A290
                clear A290
                have H' := Aside0.mk H
                clear H
                have hnb30 := NB140_141.out
                have hnc30 := NB141_140.out
                have hnb31 := NB140_142.out
                have hnc31 := NB142_140.out
                have hcz32_0 : w20.cell? ⟨gb140,0,none⟩ = some (.int .i64 0) := (blk_cell BK140.out 0).trans rfl
                have hcz32_1 : w20.cell? ⟨gb140,1,none⟩ = some (.int .i64 0) := (blk_cell BK140.out 1).trans rfl
                have hfz32_0 := blk_frozen BK140.out 0
                have hfz32_1 := blk_frozen BK140.out 1
                go_wp2_with (first | ((with_reducible refine gate_callee (f := 47) rfl ?_); refine goesL_ (some 42) rfl rfl Try.func47 (by kernel_rfl) rfl #[.int .i64 ((rd_T40 l0 x5_2).f0),.int .i64 (-1000),.int .i64 1000] rfl (by (try simp only [List.map_toArray,List.map_cons,List.map_nil]); first | done | rfl | (simp only [List.length_drop,List.length_take]; rfl)) ?_; (with_reducible refine (spec_l01In.calls ((rd_T40 l0 x5_2).f0) (-1000) 1000 true _ A27.out).mono ?_); rintro e w' ⟨rfl,⟨nd,rfl⟩⟩; refine ⟨_,rfl,?_⟩) | (go_at_call 47; (with_reducible refine (spec_l01In.calls ((rd_T40 l0 x5_2).f1) (-1000) 1000 t144 _ A29.out).mono ?_); rintro e w' ⟨rfl,⟨nd,rfl⟩⟩))
                go_meet
                case rel => exact ⟨_,(!t144),(by first | rfl | (simp; done) | (simp [*]; done)),H',⟨by have := HJ1.out; have := HK2.out; first | omega | exact Nat.le_refl _⟩,⟨by (with_reducible repeat (first | refine blk_drewN ?_ _ | refine blk_drew ?_ | refine blk_alloc ?_ _)); refine blk_far ?_ NB140_142.out _; (with_reducible repeat (first | refine blk_drewN ?_ _ | refine blk_drew ?_ | refine blk_alloc ?_ _)); refine blk_far ?_ NB140_142.out _; (with_reducible repeat (first | refine blk_drewN ?_ _ | refine blk_drew ?_ | refine blk_alloc ?_ _)); refine blk_far ?_ NB140_141.out _; (with_reducible repeat (first | refine blk_drewN ?_ _ | refine blk_drew ?_ | refine blk_alloc ?_ _)); refine blk_far ?_ NB140_141.out _; (with_reducible repeat (first | refine blk_drewN ?_ _ | refine blk_drew ?_ | refine blk_alloc ?_ _)); refine blk_put (cs := #[.int .i64 ((rd_T40 l0 x5_2).f0),.int .i64 0]) ?_ 1 _ rfl; (with_reducible repeat (first | refine blk_drewN ?_ _ | refine blk_drew ?_ | refine blk_alloc ?_ _)); refine blk_put (cs := #[.int .i64 0,.int .i64 0]) ?_ 0 _ rfl; (with_reducible repeat (first | refine blk_drewN ?_ _ | refine blk_drew ?_ | refine blk_alloc ?_ _)); exact BK140.out⟩,⟨by (with_reducible repeat (first | refine blk_drewN ?_ _ | refine blk_drew ?_ | refine blk_alloc ?_ _)); refine blk_far ?_ NB141_142.out _; (with_reducible repeat (first | refine blk_drewN ?_ _ | refine blk_drew ?_ | refine blk_alloc ?_ _)); refine blk_far ?_ NB141_142.out _; (with_reducible repeat (first | refine blk_drewN ?_ _ | refine blk_drew ?_ | refine blk_alloc ?_ _)); refine blk_put (cs := #[.int .i64 ((rd_T40 l0 (ji9)).f0),.int .i64 0]) ?_ 1 _ rfl; (with_reducible repeat (first | refine blk_drewN ?_ _ | refine blk_drew ?_ | refine blk_alloc ?_ _)); refine blk_put (cs := #[.int .i64 0,.int .i64 0]) ?_ 0 _ rfl; (with_reducible repeat (first | refine blk_drewN ?_ _ | refine blk_drew ?_ | refine blk_alloc ?_ _)); refine blk_far ?_ NB141_140.out _; (with_reducible repeat (first | refine blk_drewN ?_ _ | refine blk_drew ?_ | refine blk_alloc ?_ _)); refine blk_far ?_ NB141_140.out _; (with_reducible repeat (first | refine blk_drewN ?_ _ | refine blk_drew ?_ | refine blk_alloc ?_ _)); exact BK141.out⟩,⟨by (with_reducible repeat (first | refine blk_drewN ?_ _ | refine blk_drew ?_ | refine blk_alloc ?_ _)); refine blk_put (cs := #[.int .i64 ((rd_T40 l0 (ji12)).f0),.int .i64 0]) ?_ 1 _ rfl; (with_reducible repeat (first | refine blk_drewN ?_ _ | refine blk_drew ?_ | refine blk_alloc ?_ _)); refine blk_put (cs := #[.int .i64 0,.int .i64 0]) ?_ 0 _ rfl; (with_reducible repeat (first | refine blk_drewN ?_ _ | refine blk_drew ?_ | refine blk_alloc ?_ _)); refine blk_far ?_ NB142_141.out _; (with_reducible repeat (first | refine blk_drewN ?_ _ | refine blk_drew ?_ | refine blk_alloc ?_ _)); refine blk_far ?_ NB142_141.out _; (with_reducible repeat (first | refine blk_drewN ?_ _ | refine blk_drew ?_ | refine blk_alloc ?_ _)); refine blk_far ?_ NB142_140.out _; (with_reducible repeat (first | refine blk_drewN ?_ _ | refine blk_drew ?_ | refine blk_alloc ?_ _)); refine blk_far ?_ NB142_140.out _; (with_reducible repeat (first | refine blk_drewN ?_ _ | refine blk_drew ?_ | refine blk_alloc ?_ _)); exact BK142.out⟩,⟨by repeat (first | (with_reducible first | exact HB.out | apply below_alloc | apply pw_below_drewN | apply below_drew1 | refine below_set ?_ GE140.out | refine below_set ?_ GE141.out | refine below_set ?_ GE142.out) | exact HB.out)⟩⟩
               ·replace c28 := Bool.eq_false_iff.mpr c28
                subst c28
                have H1 : (spec_l09Is.j2 k2 l0 (l0.length : Int) x4_2 x5_2 true ((rd_T40 l0 x5_2).f0) ((rd_T40 l0 x5_2).f1) ((rd_T40 l0 (ji9)).f0) ((rd_T40 l0 (ji9)).f1) ((rd_T40 l0 (ji12)).f0) ((rd_T40 l0 (ji12)).f1)) = some r := by rw [if_neg (show ¬ (false = true) by decide)] at H; exact H
                clear H
                have H := H1
                clear H1
                have H' := Aside0.mk H
                clear H
                have hnb33 := NB140_141.out
                have hnc33 := NB141_140.out
                have hnb34 := NB140_142.out
                have hnc34 := NB142_140.out
                have hcz35_0 : w20.cell? ⟨gb140,0,none⟩ = some (.int .i64 0) := (blk_cell BK140.out 0).trans rfl
                have hcz35_1 : w20.cell? ⟨gb140,1,none⟩ = some (.int .i64 0) := (blk_cell BK140.out 1).trans rfl
                have hfz35_0 := blk_frozen BK140.out 0
                have hfz35_1 := blk_frozen BK140.out 1
                go_wp2_with (first | ((with_reducible refine gate_callee (f := 47) rfl ?_); refine goesL_ (some 42) rfl rfl Try.func47 (by kernel_rfl) rfl #[.int .i64 ((rd_T40 l0 x5_2).f0),.int .i64 (-1000),.int .i64 1000] rfl (by (try simp only [List.map_toArray,List.map_cons,List.map_nil]); first | done | rfl | (simp only [List.length_drop,List.length_take]; rfl)) ?_; (with_reducible refine (spec_l01In.calls ((rd_T40 l0 x5_2).f0) (-1000) 1000 false _ A27.out).mono ?_); rintro e w' ⟨rfl,⟨nd,rfl⟩⟩; refine ⟨_,rfl,?_⟩))
                go_meet
                case rel => exact ⟨_,(true),(by first | rfl | (simp; done) | (simp [*]; done)),H',⟨by have := HJ1.out; have := HK2.out; first | omega | exact Nat.le_refl _⟩,⟨by (with_reducible repeat (first | refine blk_drewN ?_ _ | refine blk_drew ?_ | refine blk_alloc ?_ _)); refine blk_far ?_ NB140_142.out _; (with_reducible repeat (first | refine blk_drewN ?_ _ | refine blk_drew ?_ | refine blk_alloc ?_ _)); refine blk_far ?_ NB140_142.out _; (with_reducible repeat (first | refine blk_drewN ?_ _ | refine blk_drew ?_ | refine blk_alloc ?_ _)); refine blk_far ?_ NB140_141.out _; (with_reducible repeat (first | refine blk_drewN ?_ _ | refine blk_drew ?_ | refine blk_alloc ?_ _)); refine blk_far ?_ NB140_141.out _; (with_reducible repeat (first | refine blk_drewN ?_ _ | refine blk_drew ?_ | refine blk_alloc ?_ _)); refine blk_put (cs := #[.int .i64 ((rd_T40 l0 x5_2).f0),.int .i64 0]) ?_ 1 _ rfl; (with_reducible repeat (first | refine blk_drewN ?_ _ | refine blk_drew ?_ | refine blk_alloc ?_ _)); refine blk_put (cs := #[.int .i64 0,.int .i64 0]) ?_ 0 _ rfl; (with_reducible repeat (first | refine blk_drewN ?_ _ | refine blk_drew ?_ | refine blk_alloc ?_ _)); exact BK140.out⟩,⟨by (with_reducible repeat (first | refine blk_drewN ?_ _ | refine blk_drew ?_ | refine blk_alloc ?_ _)); refine blk_far ?_ NB141_142.out _; (with_reducible repeat (first | refine blk_drewN ?_ _ | refine blk_drew ?_ | refine blk_alloc ?_ _)); refine blk_far ?_ NB141_142.out _; (with_reducible repeat (first | refine blk_drewN ?_ _ | refine blk_drew ?_ | refine blk_alloc ?_ _)); refine blk_put (cs := #[.int .i64 ((rd_T40 l0 (ji9)).f0),.int .i64 0]) ?_ 1 _ rfl; (with_reducible repeat (first | refine blk_drewN ?_ _ | refine blk_drew ?_ | refine blk_alloc ?_ _)); refine blk_put (cs := #[.int .i64 0,.int .i64 0]) ?_ 0 _ rfl; (with_reducible repeat (first | refine blk_drewN ?_ _ | refine blk_drew ?_ | refine blk_alloc ?_ _)); refine blk_far ?_ NB141_140.out _; (with_reducible repeat (first | refine blk_drewN ?_ _ | refine blk_drew ?_ | refine blk_alloc ?_ _)); refine blk_far ?_ NB141_140.out _; (with_reducible repeat (first | refine blk_drewN ?_ _ | refine blk_drew ?_ | refine blk_alloc ?_ _)); exact BK141.out⟩,⟨by (with_reducible repeat (first | refine blk_drewN ?_ _ | refine blk_drew ?_ | refine blk_alloc ?_ _)); refine blk_put (cs := #[.int .i64 ((rd_T40 l0 (ji12)).f0),.int .i64 0]) ?_ 1 _ rfl; (with_reducible repeat (first | refine blk_drewN ?_ _ | refine blk_drew ?_ | refine blk_alloc ?_ _)); refine blk_put (cs := #[.int .i64 0,.int .i64 0]) ?_ 0 _ rfl; (with_reducible repeat (first | refine blk_drewN ?_ _ | refine blk_drew ?_ | refine blk_alloc ?_ _)); refine blk_far ?_ NB142_141.out _; (with_reducible repeat (first | refine blk_drewN ?_ _ | refine blk_drew ?_ | refine blk_alloc ?_ _)); refine blk_far ?_ NB142_141.out _; (with_reducible repeat (first | refine blk_drewN ?_ _ | refine blk_drew ?_ | refine blk_alloc ?_ _)); refine blk_far ?_ NB142_140.out _; (with_reducible repeat (first | refine blk_drewN ?_ _ | refine blk_drew ?_ | refine blk_alloc ?_ _)); refine blk_far ?_ NB142_140.out _; (with_reducible repeat (first | refine blk_drewN ?_ _ | refine blk_drew ?_ | refine blk_alloc ?_ _)); exact BK142.out⟩,⟨by repeat (first | (with_reducible first | exact HB.out | apply below_alloc | apply pw_below_drewN | apply below_drew1 | refine below_set ?_ GE140.out | refine below_set ?_ GE141.out | refine below_set ?_ GE142.out) | exact HB.out)⟩⟩
              case rest =>
               clear HC15
               try clear c2
               try clear p2
               try clear c3
               try clear c4
               try clear c28
               try clear c30
               try clear c31
               try clear c33
               try clear c34
               try clear hcz32_0
               try clear hcz32_1
               try clear hcz35_0
               try clear hcz35_1
               try clear hfz32_0
               try clear hfz32_1
               try clear hfz35_0
               try clear hfz35_1
               obtain ⟨kq,x49_14,rfl,HA,HJ14,BK140,BK141,BK142,HB⟩ := hcut
               cases kq with
               | zero => exact absurd HA.out (by rw [spec_l09Is.j2]; exact fun h_ => by cases h_)
               | succ kj14 =>
                have H := HA.out
                clear HA
                simp only [spec_l09Is.j2] at H
                by_cases c36 : x49_14 = true
                ·subst c36
                 have H1 : (some false) = some r := by rw [if_pos rfl] at H; exact H
                 clear H
                 have H := H1
                 clear H1
                 obtain rfl := Option.some.inj H
                 go_wp2
                 go_ret
                 exact ⟨by first | rfl | (simp [errW_none,errW_some] <;> rfl) | (simp only [← hji9,← hji12]; first | rfl | (simp [errW_none,errW_some] <;> rfl)) | (simp [*,errW_none,errW_some] <;> rfl),by repeat (first | (with_reducible first | exact HB.out | apply below_alloc | apply pw_below_drewN | apply below_drew1 | refine below_set ?_ GE140.out | refine below_set ?_ GE141.out | refine below_set ?_ GE142.out) | exact HB.out)⟩
                ·replace c36 := Bool.eq_false_iff.mpr c36
                 subst c36
                 have H1 : ((spec_l01Is.f ((rd_T40 l0 (ji9)).f0) ((rd_T40 l0 (ji9)).f1)).bind fun t145 => (if t145 = true then ((spec_l01Is.f ((rd_T40 l0 (ji12)).f0) ((rd_T40 l0 (ji12)).f1)).bind fun t146 => (if t146 = true then ((spec_l09Side.f ((rd_T40 l0 x5_2).f0) ((rd_T40 l0 x5_2).f1) ((rd_T40 l0 (ji9)).f0) ((rd_T40 l0 (ji9)).f1) ((rd_T40 l0 (ji12)).f0) ((rd_T40 l0 (ji12)).f1)).bind fun t147 => (spec_l09Is.j3 kj14 l0 (l0.length : Int) x4_2 x5_2 (decide (t147 ≤ 0)) ((rd_T40 l0 x5_2).f0) ((rd_T40 l0 x5_2).f1) ((rd_T40 l0 (ji9)).f0) ((rd_T40 l0 (ji9)).f1) ((rd_T40 l0 (ji12)).f0) ((rd_T40 l0 (ji12)).f1))) else (spec_l09Is.j3 kj14 l0 (l0.length : Int) x4_2 x5_2 true ((rd_T40 l0 x5_2).f0) ((rd_T40 l0 x5_2).f1) ((rd_T40 l0 (ji9)).f0) ((rd_T40 l0 (ji9)).f1) ((rd_T40 l0 (ji12)).f0) ((rd_T40 l0 (ji12)).f1)))) else (spec_l09Is.j3 kj14 l0 (l0.length : Int) x4_2 x5_2 true ((rd_T40 l0 x5_2).f0) ((rd_T40 l0 x5_2).f1) ((rd_T40 l0 (ji9)).f0) ((rd_T40 l0 (ji9)).f1) ((rd_T40 l0 (ji12)).f0) ((rd_T40 l0 (ji12)).f1)))) = some r := by rw [if_neg (show ¬ (false = true) by decide)] at H; exact H
                 clear H
                 have H := H1
                 clear H1
                 have HC37 := Aside0.mk H
                 clear H
                 go_upto_region 11 with (fail)
                 go_cut [64] (fun v64 wc => ∃ (kq : Nat) (x64_36 : Bool),v64 = .bool x64_36 ∧ Aside0 (spec_l09Is.j3 kq l0 (l0.length : Int) x4_2 x5_2 x64_36 ((rd_T40 l0 x5_2).f0) ((rd_T40 l0 x5_2).f1) ((rd_T40 l0 (ji9)).f0) ((rd_T40 l0 (ji9)).f1) ((rd_T40 l0 (ji12)).f0) ((rd_T40 l0 (ji12)).f1) = some r) ∧ Aside0 (kq ≤ kj14) ∧ Aside0 (wc.heap[gb140]? = some (.cells #[.int .i64 ((rd_T40 l0 x5_2).f0),.int .i64 ((rd_T40 l0 x5_2).f1)] 40 (0,0))) ∧ Aside0 (wc.heap[gb141]? = some (.cells #[.int .i64 ((rd_T40 l0 (ji9)).f0),.int .i64 ((rd_T40 l0 (ji9)).f1)] 40 (0,0))) ∧ Aside0 (wc.heap[gb142]? = some (.cells #[.int .i64 ((rd_T40 l0 (ji12)).f0),.int .i64 ((rd_T40 l0 (ji12)).f1)] 40 (0,0))) ∧ Aside0 (Below w.heap.size w wc))
                 case first =>
                  have H := HC37.out
                  clear HC37
                  replace H := Option.bind_eq_some_iff.mp H
                  obtain ⟨t145,A380,H⟩ := H
                  replace H : (if t145 = true then ((spec_l01Is.f ((rd_T40 l0 (ji12)).f0) ((rd_T40 l0 (ji12)).f1)).bind fun t146 => (if t146 = true then ((spec_l09Side.f ((rd_T40 l0 x5_2).f0) ((rd_T40 l0 x5_2).f1) ((rd_T40 l0 (ji9)).f0) ((rd_T40 l0 (ji9)).f1) ((rd_T40 l0 (ji12)).f0) ((rd_T40 l0 (ji12)).f1)).bind fun t147 => (spec_l09Is.j3 kj14 l0 (l0.length : Int) x4_2 x5_2 (decide (t147 ≤ 0)) ((rd_T40 l0 x5_2).f0) ((rd_T40 l0 x5_2).f1) ((rd_T40 l0 (ji9)).f0) ((rd_T40 l0 (ji9)).f1) ((rd_T40 l0 (ji12)).f0) ((rd_T40 l0 (ji12)).f1))) else (spec_l09Is.j3 kj14 l0 (l0.length : Int) x4_2 x5_2 true ((rd_T40 l0 x5_2).f0) ((rd_T40 l0 x5_2).f1) ((rd_T40 l0 (ji9)).f0) ((rd_T40 l0 (ji9)).f1) ((rd_T40 l0 (ji12)).f0) ((rd_T40 l0 (ji12)).f1)))) else (spec_l09Is.j3 kj14 l0 (l0.length : Int) x4_2 x5_2 true ((rd_T40 l0 x5_2).f0) ((rd_T40 l0 x5_2).f1) ((rd_T40 l0 (ji9)).f0) ((rd_T40 l0 (ji9)).f1) ((rd_T40 l0 (ji12)).f0) ((rd_T40 l0 (ji12)).f1))) = some r := H
                  have A38 := Aside0.mk A380
                  clear A380
                  by_cases c39 : t145 = true
                  ·subst c39
                   have H1 : ((spec_l01Is.f ((rd_T40 l0 (ji12)).f0) ((rd_T40 l0 (ji12)).f1)).bind fun t146 => (if t146 = true then ((spec_l09Side.f ((rd_T40 l0 x5_2).f0) ((rd_T40 l0 x5_2).f1) ((rd_T40 l0 (ji9)).f0) ((rd_T40 l0 (ji9)).f1) ((rd_T40 l0 (ji12)).f0) ((rd_T40 l0 (ji12)).f1)).bind fun t147 => (spec_l09Is.j3 kj14 l0 (l0.length : Int) x4_2 x5_2 (decide (t147 ≤ 0)) ((rd_T40 l0 x5_2).f0) ((rd_T40 l0 x5_2).f1) ((rd_T40 l0 (ji9)).f0) ((rd_T40 l0 (ji9)).f1) ((rd_T40 l0 (ji12)).f0) ((rd_T40 l0 (ji12)).f1))) else (spec_l09Is.j3 kj14 l0 (l0.length : Int) x4_2 x5_2 true ((rd_T40 l0 x5_2).f0) ((rd_T40 l0 x5_2).f1) ((rd_T40 l0 (ji9)).f0) ((rd_T40 l0 (ji9)).f1) ((rd_T40 l0 (ji12)).f0) ((rd_T40 l0 (ji12)).f1)))) = some r := by rw [if_pos rfl] at H; exact H
                   clear H
                   have H := H1
                   clear H1
                   replace H := Option.bind_eq_some_iff.mp H
                   obtain ⟨t146,A400,H⟩ := H
                   replace H : (if t146 = true then ((spec_l09Side.f ((rd_T40 l0 x5_2).f0) ((rd_T40 l0 x5_2).f1) ((rd_T40 l0 (ji9)).f0) ((rd_T40 l0 (ji9)).f1) ((rd_T40 l0 (ji12)).f0) ((rd_T40 l0 (ji12)).f1)).bind fun t147 => (spec_l09Is.j3 kj14 l0 (l0.length : Int) x4_2 x5_2 (decide (t147 ≤ 0)) ((rd_T40 l0 x5_2).f0) ((rd_T40 l0 x5_2).f1) ((rd_T40 l0 (ji9)).f0) ((rd_T40 l0 (ji9)).f1) ((rd_T40 l0 (ji12)).f0) ((rd_T40 l0 (ji12)).f1))) else (spec_l09Is.j3 kj14 l0 (l0.length : Int) x4_2 x5_2 true ((rd_T40 l0 x5_2).f0) ((rd_T40 l0 x5_2).f1) ((rd_T40 l0 (ji9)).f0) ((rd_T40 l0 (ji9)).f1) ((rd_T40 l0 (ji12)).f0) ((rd_T40 l0 (ji12)).f1))) = some r := H
                   have A40 := Aside0.mk A400
                   clear A400
                   by_cases c41 : t146 = true
                   ·subst c41
                    have H1 : ((spec_l09Side.f ((rd_T40 l0 x5_2).f0) ((rd_T40 l0 x5_2).f1) ((rd_T40 l0 (ji9)).f0) ((rd_T40 l0 (ji9)).f1) ((rd_T40 l0 (ji12)).f0) ((rd_T40 l0 (ji12)).f1)).bind fun t147 => (spec_l09Is.j3 kj14 l0 (l0.length : Int) x4_2 x5_2 (decide (t147 ≤ 0)) ((rd_T40 l0 x5_2).f0) ((rd_T40 l0 x5_2).f1) ((rd_T40 l0 (ji9)).f0) ((rd_T40 l0 (ji9)).f1) ((rd_T40 l0 (ji12)).f0) ((rd_T40 l0 (ji12)).f1))) = some r := by rw [if_pos rfl] at H; exact H
                    clear H
                    have H := H1
                    clear H1
                    replace H := Option.bind_eq_some_iff.mp H
                    obtain ⟨t147,A420,H⟩ := H
                    replace H : (spec_l09Is.j3 kj14 l0 (l0.length : Int) x4_2 x5_2 (decide (t147 ≤ 0)) ((rd_T40 l0 x5_2).f0) ((rd_T40 l0 x5_2).f1) ((rd_T40 l0 (ji9)).f0) ((rd_T40 l0 (ji9)).f1) ((rd_T40 l0 (ji12)).f0) ((rd_T40 l0 (ji12)).f1)) = some r := H
                    have A42 := Aside0.mk A420
                    clear A420
                    have H' := Aside0.mk H
                    clear H
                    have hnb43 := NB141_140.out
                    have hnc43 := NB140_141.out
                    have hnb44 := NB141_142.out
                    have hnc44 := NB142_141.out
                    have hcz45_0 : wc.cell? ⟨gb141,0,none⟩ = some (.int .i64 ((rd_T40 l0 (ji9)).f0)) := (blk_cell BK141.out 0).trans rfl
                    have hcz45_1 : wc.cell? ⟨gb141,1,none⟩ = some (.int .i64 ((rd_T40 l0 (ji9)).f1)) := (blk_cell BK141.out 1).trans rfl
                    have hfz45_0 := blk_frozen BK141.out 0
                    have hfz45_1 := blk_frozen BK141.out 1
                    go_wp2_with (first | ((with_reducible refine gate_callee (f := 44) rfl ?_); refine goesL_ (some 51) rfl rfl Try.func44 (by kernel_rfl) rfl #[.agg #[.int .i64 ((rd_T40 l0 (ji9)).f0),.int .i64 ((rd_T40 l0 (ji9)).f1)]] rfl (by (try simp only [List.map_toArray,List.map_cons,List.map_nil]); first | done | (simp only [hji9]; rfl) | rfl | (simp only [List.length_drop,List.length_take]; rfl)) ?_; (with_reducible refine (spec_l01Is.calls ((rd_T40 l0 (ji9)).f0) ((rd_T40 l0 (ji9)).f1) true _ A38.out).mono ?_); rintro e w46 ⟨rfl,hb⟩; refine ⟨_,rfl,?_⟩; have n0_ := Aside0.mk (blk_below (g := gb140) (o := .cells #[.int .i64 ((rd_T40 l0 x5_2).f0),.int .i64 ((rd_T40 l0 x5_2).f1)] 40 (0,0)) (by (with_reducible repeat (first | refine blk_drewN ?_ _ | refine blk_drew ?_ | refine blk_alloc ?_ _)); exact BK140.out) hb); have n1_ := Aside0.mk (blk_below (g := gb141) (o := .cells #[.int .i64 ((rd_T40 l0 (ji9)).f0),.int .i64 ((rd_T40 l0 (ji9)).f1)] 40 (0,0)) (by (with_reducible repeat (first | refine blk_drewN ?_ _ | refine blk_drew ?_ | refine blk_alloc ?_ _)); exact BK141.out) hb); have n2_ := Aside0.mk (blk_below (g := gb142) (o := .cells #[.int .i64 ((rd_T40 l0 (ji12)).f0),.int .i64 ((rd_T40 l0 (ji12)).f1)] 40 (0,0)) (by (with_reducible repeat (first | refine blk_drewN ?_ _ | refine blk_drew ?_ | refine blk_alloc ?_ _)); exact BK142.out) hb); have n3_ := Aside0.mk (below_step (by repeat (first | (with_reducible first | exact HB.out | apply below_alloc | apply pw_below_drewN | apply below_drew1 | refine below_set ?_ GE140.out | refine below_set ?_ GE141.out | refine below_set ?_ GE142.out) | exact HB.out)) hb); clear BK140; clear BK141; clear BK142; clear HB; have BK140 := n0_; have BK141 := n1_; have BK142 := n2_; have HB := n3_; clear n0_ n1_ n2_ n3_; (try clear hb); (try clear hb2); (try clear hk); (try clear hi); have hnb47 := NB142_140.out; have hnc47 := NB140_142.out; have hcz48_0 : w46.cell? ⟨gb142,0,none⟩ = some (.int .i64 ((rd_T40 l0 (ji12)).f0)) := (blk_cell BK142.out 0).trans rfl; have hcz48_1 : w46.cell? ⟨gb142,1,none⟩ = some (.int .i64 ((rd_T40 l0 (ji12)).f1)) := (blk_cell BK142.out 1).trans rfl; have hfz48_0 := blk_frozen BK142.out 0; have hfz48_1 := blk_frozen BK142.out 1) | (go_at_call 44; (with_reducible refine (spec_l01Is.calls ((rd_T40 l0 (ji12)).f0) ((rd_T40 l0 (ji12)).f1) true _ A40.out).mono ?_); rintro e w49 ⟨rfl,hb⟩; have n0_ := Aside0.mk (blk_below (g := gb140) (o := .cells #[.int .i64 ((rd_T40 l0 x5_2).f0),.int .i64 ((rd_T40 l0 x5_2).f1)] 40 (0,0)) (by (with_reducible repeat (first | refine blk_drewN ?_ _ | refine blk_drew ?_ | refine blk_alloc ?_ _)); exact BK140.out) hb); have n1_ := Aside0.mk (blk_below (g := gb141) (o := .cells #[.int .i64 ((rd_T40 l0 (ji9)).f0),.int .i64 ((rd_T40 l0 (ji9)).f1)] 40 (0,0)) (by (with_reducible repeat (first | refine blk_drewN ?_ _ | refine blk_drew ?_ | refine blk_alloc ?_ _)); exact BK141.out) hb); have n2_ := Aside0.mk (blk_below (g := gb142) (o := .cells #[.int .i64 ((rd_T40 l0 (ji12)).f0),.int .i64 ((rd_T40 l0 (ji12)).f1)] 40 (0,0)) (by (with_reducible repeat (first | refine blk_drewN ?_ _ | refine blk_drew ?_ | refine blk_alloc ?_ _)); exact BK142.out) hb); have n3_ := Aside0.mk (below_step (by repeat (first | (with_reducible first | exact HB.out | apply below_alloc | apply pw_below_drewN | apply below_drew1 | refine below_set ?_ GE140.out | refine below_set ?_ GE141.out | refine below_set ?_ GE142.out) | exact HB.out)) hb); clear BK140; clear BK141; clear BK142; clear HB; have BK140 := n0_; have BK141 := n1_; have BK142 := n2_; have HB := n3_; clear n0_ n1_ n2_ n3_; (try clear hb); (try clear hb2); (try clear hk); (try clear hi); have hcz50_0 : w49.cell? ⟨gb140,0,none⟩ = some (.int .i64 ((rd_T40 l0 x5_2).f0)) := (blk_cell BK140.out 0).trans rfl; have hcz50_1 : w49.cell? ⟨gb140,1,none⟩ = some (.int .i64 ((rd_T40 l0 x5_2).f1)) := (blk_cell BK140.out 1).trans rfl; have hfz50_0 := blk_frozen BK140.out 0; have hfz50_1 := blk_frozen BK140.out 1; have hcz51_0 : w49.cell? ⟨gb141,0,none⟩ = some (.int .i64 ((rd_T40 l0 (ji9)).f0)) := (blk_cell BK141.out 0).trans rfl; have hcz51_1 : w49.cell? ⟨gb141,1,none⟩ = some (.int .i64 ((rd_T40 l0 (ji9)).f1)) := (blk_cell BK141.out 1).trans rfl; have hfz51_0 := blk_frozen BK141.out 0; have hfz51_1 := blk_frozen BK141.out 1; have hcz52_0 : w49.cell? ⟨gb142,0,none⟩ = some (.int .i64 ((rd_T40 l0 (ji12)).f0)) := (blk_cell BK142.out 0).trans rfl; have hcz52_1 : w49.cell? ⟨gb142,1,none⟩ = some (.int .i64 ((rd_T40 l0 (ji12)).f1)) := (blk_cell BK142.out 1).trans rfl; have hfz52_0 := blk_frozen BK142.out 0; have hfz52_1 := blk_frozen BK142.out 1) | (go_at_call 80; (with_reducible refine (spec_l09Side.calls ((rd_T40 l0 x5_2).f0) ((rd_T40 l0 x5_2).f1) ((rd_T40 l0 (ji9)).f0) ((rd_T40 l0 (ji9)).f1) ((rd_T40 l0 (ji12)).f0) ((rd_T40 l0 (ji12)).f1) t147 _ A42.out).mono ?_); rintro e w53 ⟨rfl,hb⟩; have n0_ := Aside0.mk (blk_below (g := gb140) (o := .cells #[.int .i64 ((rd_T40 l0 x5_2).f0),.int .i64 ((rd_T40 l0 x5_2).f1)] 40 (0,0)) (by (with_reducible repeat (first | refine blk_drewN ?_ _ | refine blk_drew ?_ | refine blk_alloc ?_ _)); exact BK140.out) hb); have n1_ := Aside0.mk (blk_below (g := gb141) (o := .cells #[.int .i64 ((rd_T40 l0 (ji9)).f0),.int .i64 ((rd_T40 l0 (ji9)).f1)] 40 (0,0)) (by (with_reducible repeat (first | refine blk_drewN ?_ _ | refine blk_drew ?_ | refine blk_alloc ?_ _)); exact BK141.out) hb); have n2_ := Aside0.mk (blk_below (g := gb142) (o := .cells #[.int .i64 ((rd_T40 l0 (ji12)).f0),.int .i64 ((rd_T40 l0 (ji12)).f1)] 40 (0,0)) (by (with_reducible repeat (first | refine blk_drewN ?_ _ | refine blk_drew ?_ | refine blk_alloc ?_ _)); exact BK142.out) hb); have n3_ := Aside0.mk (below_step (by repeat (first | (with_reducible first | exact HB.out | apply below_alloc | apply pw_below_drewN | apply below_drew1 | refine below_set ?_ GE140.out | refine below_set ?_ GE141.out | refine below_set ?_ GE142.out) | exact HB.out)) hb); clear BK140; clear BK141; clear BK142; clear HB; have BK140 := n0_; have BK141 := n1_; have BK142 := n2_; have HB := n3_; clear n0_ n1_ n2_ n3_; (try clear hb); (try clear hb2); (try clear hk); (try clear hi)))
                    go_meet
                    case rel => exact ⟨_,(decide (t147 ≤ 0)),(by first | rfl | (simp; done) | (simp [*]; done)),H',⟨by have := HJ1.out; have := HK2.out; have := HJ14.out; first | omega | exact Nat.le_refl _⟩,⟨by (with_reducible repeat (first | refine blk_drewN ?_ _ | refine blk_drew ?_ | refine blk_alloc ?_ _)); exact BK140.out⟩,⟨by (with_reducible repeat (first | refine blk_drewN ?_ _ | refine blk_drew ?_ | refine blk_alloc ?_ _)); exact BK141.out⟩,⟨by (with_reducible repeat (first | refine blk_drewN ?_ _ | refine blk_drew ?_ | refine blk_alloc ?_ _)); exact BK142.out⟩,⟨by repeat (first | (with_reducible first | exact HB.out | apply below_alloc | apply pw_below_drewN | apply below_drew1 | refine below_set ?_ GE140.out | refine below_set ?_ GE141.out | refine below_set ?_ GE142.out) | exact HB.out)⟩⟩
                   ·replace c41 := Bool.eq_false_iff.mpr c41
                    subst c41
                    have H1 : (spec_l09Is.j3 kj14 l0 (l0.length : Int) x4_2 x5_2 true ((rd_T40 l0 x5_2).f0) ((rd_T40 l0 x5_2).f1) ((rd_T40 l0 (ji9)).f0) ((rd_T40 l0 (ji9)).f1) ((rd_T40 l0 (ji12)).f0) ((rd_T40 l0 (ji12)).f1)) = some r := by rw [if_neg (show ¬ (false = true) by decide)] at H; exact H
                    clear H
                    have H := H1
                    clear H1
                    have H' := Aside0.mk H
                    clear H
                    have hnb54 := NB141_140.out
                    have hnc54 := NB140_141.out
                    have hnb55 := NB141_142.out
                    have hnc55 := NB142_141.out
                    have hcz56_0 : wc.cell? ⟨gb141,0,none⟩ = some (.int .i64 ((rd_T40 l0 (ji9)).f0)) := (blk_cell BK141.out 0).trans rfl
                    have hcz56_1 : wc.cell? ⟨gb141,1,none⟩ = some (.int .i64 ((rd_T40 l0 (ji9)).f1)) := (blk_cell BK141.out 1).trans rfl
                    have hfz56_0 := blk_frozen BK141.out 0
                    have hfz56_1 := blk_frozen BK141.out 1
                    go_wp2_with (first | ((with_reducible refine gate_callee (f := 44) rfl ?_); refine goesL_ (some 51) rfl rfl Try.func44 (by kernel_rfl) rfl #[.agg #[.int .i64 ((rd_T40 l0 (ji9)).f0),.int .i64 ((rd_T40 l0 (ji9)).f1)]] rfl (by (try simp only [List.map_toArray,List.map_cons,List.map_nil]); first | done | (simp only [hji9]; rfl) | rfl | (simp only [List.length_drop,List.length_take]; rfl)) ?_; (with_reducible refine (spec_l01Is.calls ((rd_T40 l0 (ji9)).f0) ((rd_T40 l0 (ji9)).f1) true _ A38.out).mono ?_); rintro e w57 ⟨rfl,hb⟩; refine ⟨_,rfl,?_⟩; have n0_ := Aside0.mk (blk_below (g := gb140) (o := .cells #[.int .i64 ((rd_T40 l0 x5_2).f0),.int .i64 ((rd_T40 l0 x5_2).f1)] 40 (0,0)) (by (with_reducible repeat (first | refine blk_drewN ?_ _ | refine blk_drew ?_ | refine blk_alloc ?_ _)); exact BK140.out) hb); have n1_ := Aside0.mk (blk_below (g := gb141) (o := .cells #[.int .i64 ((rd_T40 l0 (ji9)).f0),.int .i64 ((rd_T40 l0 (ji9)).f1)] 40 (0,0)) (by (with_reducible repeat (first | refine blk_drewN ?_ _ | refine blk_drew ?_ | refine blk_alloc ?_ _)); exact BK141.out) hb); have n2_ := Aside0.mk (blk_below (g := gb142) (o := .cells #[.int .i64 ((rd_T40 l0 (ji12)).f0),.int .i64 ((rd_T40 l0 (ji12)).f1)] 40 (0,0)) (by (with_reducible repeat (first | refine blk_drewN ?_ _ | refine blk_drew ?_ | refine blk_alloc ?_ _)); exact BK142.out) hb); have n3_ := Aside0.mk (below_step (by repeat (first | (with_reducible first | exact HB.out | apply below_alloc | apply pw_below_drewN | apply below_drew1 | refine below_set ?_ GE140.out | refine below_set ?_ GE141.out | refine below_set ?_ GE142.out) | exact HB.out)) hb); clear BK140; clear BK141; clear BK142; clear HB; have BK140 := n0_; have BK141 := n1_; have BK142 := n2_; have HB := n3_; clear n0_ n1_ n2_ n3_; (try clear hb); (try clear hb2); (try clear hk); (try clear hi); have hnb58 := NB142_140.out; have hnc58 := NB140_142.out; have hcz59_0 : w57.cell? ⟨gb142,0,none⟩ = some (.int .i64 ((rd_T40 l0 (ji12)).f0)) := (blk_cell BK142.out 0).trans rfl; have hcz59_1 : w57.cell? ⟨gb142,1,none⟩ = some (.int .i64 ((rd_T40 l0 (ji12)).f1)) := (blk_cell BK142.out 1).trans rfl; have hfz59_0 := blk_frozen BK142.out 0; have hfz59_1 := blk_frozen BK142.out 1) | (go_at_call 44; (with_reducible refine (spec_l01Is.calls ((rd_T40 l0 (ji12)).f0) ((rd_T40 l0 (ji12)).f1) false _ A40.out).mono ?_); rintro e w60 ⟨rfl,hb⟩; have n0_ := Aside0.mk (blk_below (g := gb140) (o := .cells #[.int .i64 ((rd_T40 l0 x5_2).f0),.int .i64 ((rd_T40 l0 x5_2).f1)] 40 (0,0)) (by (with_reducible repeat (first | refine blk_drewN ?_ _ | refine blk_drew ?_ | refine blk_alloc ?_ _)); exact BK140.out) hb); have n1_ := Aside0.mk (blk_below (g := gb141) (o := .cells #[.int .i64 ((rd_T40 l0 (ji9)).f0),.int .i64 ((rd_T40 l0 (ji9)).f1)] 40 (0,0)) (by (with_reducible repeat (first | refine blk_drewN ?_ _ | refine blk_drew ?_ | refine blk_alloc ?_ _)); exact BK141.out) hb); have n2_ := Aside0.mk (blk_below (g := gb142) (o := .cells #[.int .i64 ((rd_T40 l0 (ji12)).f0),.int .i64 ((rd_T40 l0 (ji12)).f1)] 40 (0,0)) (by (with_reducible repeat (first | refine blk_drewN ?_ _ | refine blk_drew ?_ | refine blk_alloc ?_ _)); exact BK142.out) hb); have n3_ := Aside0.mk (below_step (by repeat (first | (with_reducible first | exact HB.out | apply below_alloc | apply pw_below_drewN | apply below_drew1 | refine below_set ?_ GE140.out | refine below_set ?_ GE141.out | refine below_set ?_ GE142.out) | exact HB.out)) hb); clear BK140; clear BK141; clear BK142; clear HB; have BK140 := n0_; have BK141 := n1_; have BK142 := n2_; have HB := n3_; clear n0_ n1_ n2_ n3_; (try clear hb); (try clear hb2); (try clear hk); (try clear hi)))
                    go_meet
                    case rel => exact ⟨_,(true),(by first | rfl | (simp; done) | (simp [*]; done)),H',⟨by have := HJ1.out; have := HK2.out; have := HJ14.out; first | omega | exact Nat.le_refl _⟩,⟨by (with_reducible repeat (first | refine blk_drewN ?_ _ | refine blk_drew ?_ | refine blk_alloc ?_ _)); exact BK140.out⟩,⟨by (with_reducible repeat (first | refine blk_drewN ?_ _ | refine blk_drew ?_ | refine blk_alloc ?_ _)); exact BK141.out⟩,⟨by (with_reducible repeat (first | refine blk_drewN ?_ _ | refine blk_drew ?_ | refine blk_alloc ?_ _)); exact BK142.out⟩,⟨by repeat (first | (with_reducible first | exact HB.out | apply below_alloc | apply pw_below_drewN | apply below_drew1 | refine below_set ?_ GE140.out | refine below_set ?_ GE141.out | refine below_set ?_ GE142.out) | exact HB.out)⟩⟩
                  ·replace c39 := Bool.eq_false_iff.mpr c39
                   subst c39
                   have H1 : (spec_l09Is.j3 kj14 l0 (l0.length : Int) x4_2 x5_2 true ((rd_T40 l0 x5_2).f0) ((rd_T40 l0 x5_2).f1) ((rd_T40 l0 (ji9)).f0) ((rd_T40 l0 (ji9)).f1) ((rd_T40 l0 (ji12)).f0) ((rd_T40 l0 (ji12)).f1)) = some r := by rw [if_neg (show ¬ (false = true) by decide)] at H; exact H
                   clear H
                   have H := H1
                   clear H1
                   have H' := Aside0.mk H
                   clear H
                   have hnb61 := NB141_140.out
                   have hnc61 := NB140_141.out
                   have hnb62 := NB141_142.out
                   have hnc62 := NB142_141.out
                   have hcz63_0 : wc.cell? ⟨gb141,0,none⟩ = some (.int .i64 ((rd_T40 l0 (ji9)).f0)) := (blk_cell BK141.out 0).trans rfl
                   have hcz63_1 : wc.cell? ⟨gb141,1,none⟩ = some (.int .i64 ((rd_T40 l0 (ji9)).f1)) := (blk_cell BK141.out 1).trans rfl
                   have hfz63_0 := blk_frozen BK141.out 0
                   have hfz63_1 := blk_frozen BK141.out 1
                   go_wp2_with (first | ((with_reducible refine gate_callee (f := 44) rfl ?_); refine goesL_ (some 51) rfl rfl Try.func44 (by kernel_rfl) rfl #[.agg #[.int .i64 ((rd_T40 l0 (ji9)).f0),.int .i64 ((rd_T40 l0 (ji9)).f1)]] rfl (by (try simp only [List.map_toArray,List.map_cons,List.map_nil]); first | done | (simp only [hji9]; rfl) | rfl | (simp only [List.length_drop,List.length_take]; rfl)) ?_; (with_reducible refine (spec_l01Is.calls ((rd_T40 l0 (ji9)).f0) ((rd_T40 l0 (ji9)).f1) false _ A38.out).mono ?_); rintro e w64 ⟨rfl,hb⟩; refine ⟨_,rfl,?_⟩; have n0_ := Aside0.mk (blk_below (g := gb140) (o := .cells #[.int .i64 ((rd_T40 l0 x5_2).f0),.int .i64 ((rd_T40 l0 x5_2).f1)] 40 (0,0)) (by (with_reducible repeat (first | refine blk_drewN ?_ _ | refine blk_drew ?_ | refine blk_alloc ?_ _)); exact BK140.out) hb); have n1_ := Aside0.mk (blk_below (g := gb141) (o := .cells #[.int .i64 ((rd_T40 l0 (ji9)).f0),.int .i64 ((rd_T40 l0 (ji9)).f1)] 40 (0,0)) (by (with_reducible repeat (first | refine blk_drewN ?_ _ | refine blk_drew ?_ | refine blk_alloc ?_ _)); exact BK141.out) hb); have n2_ := Aside0.mk (blk_below (g := gb142) (o := .cells #[.int .i64 ((rd_T40 l0 (ji12)).f0),.int .i64 ((rd_T40 l0 (ji12)).f1)] 40 (0,0)) (by (with_reducible repeat (first | refine blk_drewN ?_ _ | refine blk_drew ?_ | refine blk_alloc ?_ _)); exact BK142.out) hb); have n3_ := Aside0.mk (below_step (by repeat (first | (with_reducible first | exact HB.out | apply below_alloc | apply pw_below_drewN | apply below_drew1 | refine below_set ?_ GE140.out | refine below_set ?_ GE141.out | refine below_set ?_ GE142.out) | exact HB.out)) hb); clear BK140; clear BK141; clear BK142; clear HB; have BK140 := n0_; have BK141 := n1_; have BK142 := n2_; have HB := n3_; clear n0_ n1_ n2_ n3_; (try clear hb); (try clear hb2); (try clear hk); (try clear hi)))
                   go_meet
                   case rel => exact ⟨_,(true),(by first | rfl | (simp; done) | (simp [*]; done)),H',⟨by have := HJ1.out; have := HK2.out; have := HJ14.out; first | omega | exact Nat.le_refl _⟩,⟨by (with_reducible repeat (first | refine blk_drewN ?_ _ | refine blk_drew ?_ | refine blk_alloc ?_ _)); exact BK140.out⟩,⟨by (with_reducible repeat (first | refine blk_drewN ?_ _ | refine blk_drew ?_ | refine blk_alloc ?_ _)); exact BK141.out⟩,⟨by (with_reducible repeat (first | refine blk_drewN ?_ _ | refine blk_drew ?_ | refine blk_alloc ?_ _)); exact BK142.out⟩,⟨by repeat (first | (with_reducible first | exact HB.out | apply below_alloc | apply pw_below_drewN | apply below_drew1 | refine below_set ?_ GE140.out | refine below_set ?_ GE141.out | refine below_set ?_ GE142.out) | exact HB.out)⟩⟩
                 case rest =>
                  clear HC37
                  try clear c2
                  try clear p2
                  try clear c3
                  try clear c4
                  try clear c5
                  try clear c6
                  try clear c28
                  try clear c30
                  try clear c31
                  try clear c33
                  try clear c34
                  try clear c36
                  try clear c39
                  try clear c41
                  try clear c43
                  try clear c44
                  try clear c47
                  try clear c54
                  try clear c55
                  try clear c58
                  try clear c61
                  try clear c62
                  try clear hcz32_0
                  try clear hcz32_1
                  try clear hcz35_0
                  try clear hcz35_1
                  try clear hcz45_0
                  try clear hcz45_1
                  try clear hcz48_0
                  try clear hcz48_1
                  try clear hcz50_0
                  try clear hcz50_1
                  try clear hcz51_0
                  try clear hcz51_1
                  try clear hcz52_0
                  try clear hcz52_1
                  try clear hcz56_0
                  try clear hcz56_1
                  try clear hcz59_0
                  try clear hcz59_1
                  try clear hcz63_0
                  try clear hcz63_1
                  try clear hfz32_0
                  try clear hfz32_1
                  try clear hfz35_0
                  try clear hfz35_1
                  try clear hfz45_0
                  try clear hfz45_1
                  try clear hfz48_0
                  try clear hfz48_1
                  try clear hfz50_0
                  try clear hfz50_1
                  try clear hfz51_0
                  try clear hfz51_1
                  try clear hfz52_0
                  try clear hfz52_1
                  try clear hfz56_0
                  try clear hfz56_1
                  try clear hfz59_0
                  try clear hfz59_1
                  try clear hfz63_0
                  try clear hfz63_1
                  try clear p2
                  obtain ⟨kq,x64_36,rfl,HA,HJ36,BK140,BK141,BK142,HB⟩ := hcut
                  cases kq with
                  | zero => exact absurd HA.out (by rw [spec_l09Is.j3]; exact fun h_ => by cases h_)
                  | succ kj36 =>
                   have H := HA.out
                   clear HA
                   simp only [spec_l09Is.j3] at H
                   by_cases c65 : x64_36 = true
                   ·subst c65
                    have H1 : (some false) = some r := by rw [if_pos rfl] at H; exact H
                    clear H
                    have H := H1
                    clear H1
                    obtain rfl := Option.some.inj H
                    go_wp2
                    go_ret
                    exact ⟨by first | rfl | (simp [errW_none,errW_some] <;> rfl) | (simp only [← hji9,← hji12]; first | rfl | (simp [errW_none,errW_some] <;> rfl)) | (simp [*,errW_none,errW_some] <;> rfl),by repeat (first | (with_reducible first | exact HB.out | apply below_alloc | apply pw_below_drewN | apply below_drew1 | refine below_set ?_ GE140.out | refine below_set ?_ GE141.out | refine below_set ?_ GE142.out) | exact HB.out)⟩
                   ·replace c65 := Bool.eq_false_iff.mpr c65
                    subst c65
                    have H1 : ((spec_l01Plus.f ((rd_T40 l0 (ji9)).f0) ((rd_T40 l0 (ji9)).f1) ((rd_T40 l0 x5_2).f0) ((rd_T40 l0 x5_2).f1) (-1)).bind fun bt148 => ((spec_l09Half.f kj36 bt148.1 bt148.2).bind fun t150 => (if t150 = 1 then ((spec_l01Plus.f ((rd_T40 l0 (ji12)).f0) ((rd_T40 l0 (ji12)).f1) ((rd_T40 l0 (ji9)).f0) ((rd_T40 l0 (ji9)).f1) (-1)).bind fun bt151 => ((spec_l09Half.f kj36 bt151.1 bt151.2).bind fun t153 => (if t153 = 0 then (spec_l09Is.l0 kj36 l0 (l0.length : Int) (wrap64 (x4_2 + 1)) (wrap64 (x5_2 + 1))) else (spec_l09Is.l0 kj36 l0 (l0.length : Int) x4_2 (wrap64 (x5_2 + 1)))))) else (spec_l09Is.l0 kj36 l0 (l0.length : Int) x4_2 (wrap64 (x5_2 + 1)))))) = some r := by rw [if_neg (show ¬ (false = true) by decide)] at H; exact H
                    clear H
                    have H := H1
                    clear H1
                    replace H := Option.bind_eq_some_iff.mp H
                    obtain ⟨⟨t148,t149⟩,A660,H⟩ := H
                    replace H : ((spec_l09Half.f kj36 t148 t149).bind fun t150 => (if t150 = 1 then ((spec_l01Plus.f ((rd_T40 l0 (ji12)).f0) ((rd_T40 l0 (ji12)).f1) ((rd_T40 l0 (ji9)).f0) ((rd_T40 l0 (ji9)).f1) (-1)).bind fun bt151 => ((spec_l09Half.f kj36 bt151.1 bt151.2).bind fun t153 => (if t153 = 0 then (spec_l09Is.l0 kj36 l0 (l0.length : Int) (wrap64 (x4_2 + 1)) (wrap64 (x5_2 + 1))) else (spec_l09Is.l0 kj36 l0 (l0.length : Int) x4_2 (wrap64 (x5_2 + 1)))))) else (spec_l09Is.l0 kj36 l0 (l0.length : Int) x4_2 (wrap64 (x5_2 + 1))))) = some r := H
                    have A66 := Aside0.mk A660
                    clear A660
                    replace H := Option.bind_eq_some_iff.mp H
                    obtain ⟨t150,A670,H⟩ := H
                    replace H : (if t150 = 1 then ((spec_l01Plus.f ((rd_T40 l0 (ji12)).f0) ((rd_T40 l0 (ji12)).f1) ((rd_T40 l0 (ji9)).f0) ((rd_T40 l0 (ji9)).f1) (-1)).bind fun bt151 => ((spec_l09Half.f kj36 bt151.1 bt151.2).bind fun t153 => (if t153 = 0 then (spec_l09Is.l0 kj36 l0 (l0.length : Int) (wrap64 (x4_2 + 1)) (wrap64 (x5_2 + 1))) else (spec_l09Is.l0 kj36 l0 (l0.length : Int) x4_2 (wrap64 (x5_2 + 1)))))) else (spec_l09Is.l0 kj36 l0 (l0.length : Int) x4_2 (wrap64 (x5_2 + 1)))) = some r := H
                    have A67 := Aside0.mk A670
                    clear A670
                    by_cases c68 : t150 = 1
                    ·rw [if_pos c68] at H
                     have c68b0 : (t150 == 1) = true := beq_iff_eq.mpr c68
                     have c68b1 : (t150 != 1) = false := bne_eq_false_iff_eq.mpr c68
                     clear c68
                     replace H := Option.bind_eq_some_iff.mp H
                     obtain ⟨⟨t151,t152⟩,A690,H⟩ := H
                     replace H : ((spec_l09Half.f kj36 t151 t152).bind fun t153 => (if t153 = 0 then (spec_l09Is.l0 kj36 l0 (l0.length : Int) (wrap64 (x4_2 + 1)) (wrap64 (x5_2 + 1))) else (spec_l09Is.l0 kj36 l0 (l0.length : Int) x4_2 (wrap64 (x5_2 + 1))))) = some r := H
                     have A69 := Aside0.mk A690
                     clear A690
                     replace H := Option.bind_eq_some_iff.mp H
                     obtain ⟨t153,A700,H⟩ := H
                     replace H : (if t153 = 0 then (spec_l09Is.l0 kj36 l0 (l0.length : Int) (wrap64 (x4_2 + 1)) (wrap64 (x5_2 + 1))) else (spec_l09Is.l0 kj36 l0 (l0.length : Int) x4_2 (wrap64 (x5_2 + 1)))) = some r := H
                     have A70 := Aside0.mk A700
                     clear A700
                     by_cases c71 : t153 = 0
                     ·rw [if_pos c71] at H
                      have c71b0 : (t153 == 0) = true := beq_iff_eq.mpr c71
                      have c71b1 : (t153 != 0) = false := bne_eq_false_iff_eq.mpr c71
                      clear c71
                      have H' := Aside0.mk H
                      clear H
                      have hnb72 := NB141_140.out
                      have hnc72 := NB140_141.out
                      have hnb73 := NB141_142.out
                      have hnc73 := NB142_141.out
                      have hcz74_0 : wc.cell? ⟨gb141,0,none⟩ = some (.int .i64 ((rd_T40 l0 (ji9)).f0)) := (blk_cell BK141.out 0).trans rfl
                      have hcz74_1 : wc.cell? ⟨gb141,1,none⟩ = some (.int .i64 ((rd_T40 l0 (ji9)).f1)) := (blk_cell BK141.out 1).trans rfl
                      have hfz74_0 := blk_frozen BK141.out 0
                      have hfz74_1 := blk_frozen BK141.out 1
                      have hnb75 := NB140_142.out
                      have hnc75 := NB142_140.out
                      have hcz76_0 : wc.cell? ⟨gb140,0,none⟩ = some (.int .i64 ((rd_T40 l0 x5_2).f0)) := (blk_cell BK140.out 0).trans rfl
                      have hcz76_1 : wc.cell? ⟨gb140,1,none⟩ = some (.int .i64 ((rd_T40 l0 x5_2).f1)) := (blk_cell BK140.out 1).trans rfl
                      have hfz76_0 := blk_frozen BK140.out 0
                      have hfz76_1 := blk_frozen BK140.out 1
                      go_wp2_with (first | ((with_reducible refine gate_callee (f := 36) rfl ?_); refine goesL_ (some 67) rfl rfl Try.func36 (by kernel_rfl) rfl #[.agg #[.int .i64 ((rd_T40 l0 (ji9)).f0),.int .i64 ((rd_T40 l0 (ji9)).f1)],.agg #[.int .i64 ((rd_T40 l0 x5_2).f0),.int .i64 ((rd_T40 l0 x5_2).f1)],.int .i64 (-1)] rfl (by (try simp only [List.map_toArray,List.map_cons,List.map_nil]); first | done | (simp only [hji9]; rfl) | rfl | (simp only [List.length_drop,List.length_take]; rfl)) ?_; (with_reducible refine (spec_l01Plus.calls ((rd_T40 l0 (ji9)).f0) ((rd_T40 l0 (ji9)).f1) ((rd_T40 l0 x5_2).f0) ((rd_T40 l0 x5_2).f1) (-1) t148 t149 _ A66.out).mono ?_); rintro e w77 ⟨rfl,hb⟩; refine ⟨_,rfl,?_⟩; have n0_ := Aside0.mk (blk_below (g := gb140) (o := .cells #[.int .i64 ((rd_T40 l0 x5_2).f0),.int .i64 ((rd_T40 l0 x5_2).f1)] 40 (0,0)) (by (with_reducible repeat (first | refine blk_drewN ?_ _ | refine blk_drew ?_ | refine blk_alloc ?_ _)); exact BK140.out) hb); have n1_ := Aside0.mk (blk_below (g := gb141) (o := .cells #[.int .i64 ((rd_T40 l0 (ji9)).f0),.int .i64 ((rd_T40 l0 (ji9)).f1)] 40 (0,0)) (by (with_reducible repeat (first | refine blk_drewN ?_ _ | refine blk_drew ?_ | refine blk_alloc ?_ _)); exact BK141.out) hb); have n2_ := Aside0.mk (blk_below (g := gb142) (o := .cells #[.int .i64 ((rd_T40 l0 (ji12)).f0),.int .i64 ((rd_T40 l0 (ji12)).f1)] 40 (0,0)) (by (with_reducible repeat (first | refine blk_drewN ?_ _ | refine blk_drew ?_ | refine blk_alloc ?_ _)); exact BK142.out) hb); have n3_ := Aside0.mk (below_step (by repeat (first | (with_reducible first | exact HB.out | apply below_alloc | apply pw_below_drewN | apply below_drew1 | refine below_set ?_ GE140.out | refine below_set ?_ GE141.out | refine below_set ?_ GE142.out) | exact HB.out)) hb); clear BK140; clear BK141; clear BK142; clear HB; have BK140 := n0_; have BK141 := n1_; have BK142 := n2_; have HB := n3_; clear n0_ n1_ n2_ n3_; (try clear hb); (try clear hb2); (try clear hk); (try clear hi)) | ((with_reducible refine gate_callee (f := 81) rfl ?_); refine goesL_ (some 68) rfl rfl Try.func81 (by kernel_rfl) rfl #[.agg #[.int .i64 t148,.int .i64 t149]] rfl (by (try simp only [List.map_toArray,List.map_cons,List.map_nil]); first | done | rfl | (simp only [List.length_drop,List.length_take]; rfl)) ?_; (with_reducible refine (spec_l09Half.calls kj36 t148 t149 t150 _ A67.out).mono ?_); rintro e w78 ⟨rfl,hb⟩; refine ⟨_,rfl,?_⟩; have n0_ := Aside0.mk (blk_below (g := gb140) (o := .cells #[.int .i64 ((rd_T40 l0 x5_2).f0),.int .i64 ((rd_T40 l0 x5_2).f1)] 40 (0,0)) (by (with_reducible repeat (first | refine blk_drewN ?_ _ | refine blk_drew ?_ | refine blk_alloc ?_ _)); exact BK140.out) hb); have n1_ := Aside0.mk (blk_below (g := gb141) (o := .cells #[.int .i64 ((rd_T40 l0 (ji9)).f0),.int .i64 ((rd_T40 l0 (ji9)).f1)] 40 (0,0)) (by (with_reducible repeat (first | refine blk_drewN ?_ _ | refine blk_drew ?_ | refine blk_alloc ?_ _)); exact BK141.out) hb); have n2_ := Aside0.mk (blk_below (g := gb142) (o := .cells #[.int .i64 ((rd_T40 l0 (ji12)).f0),.int .i64 ((rd_T40 l0 (ji12)).f1)] 40 (0,0)) (by (with_reducible repeat (first | refine blk_drewN ?_ _ | refine blk_drew ?_ | refine blk_alloc ?_ _)); exact BK142.out) hb); have n3_ := Aside0.mk (below_step (by repeat (first | (with_reducible first | exact HB.out | apply below_alloc | apply pw_below_drewN | apply below_drew1 | refine below_set ?_ GE140.out | refine below_set ?_ GE141.out | refine below_set ?_ GE142.out) | exact HB.out)) hb); clear BK140; clear BK141; clear BK142; clear HB; have BK140 := n0_; have BK141 := n1_; have BK142 := n2_; have HB := n3_; clear n0_ n1_ n2_ n3_; (try clear hb); (try clear hb2); (try clear hk); (try clear hi); have hcz79_0 : w78.cell? ⟨gb142,0,none⟩ = some (.int .i64 ((rd_T40 l0 (ji12)).f0)) := (blk_cell BK142.out 0).trans rfl; have hcz79_1 : w78.cell? ⟨gb142,1,none⟩ = some (.int .i64 ((rd_T40 l0 (ji12)).f1)) := (blk_cell BK142.out 1).trans rfl; have hfz79_0 := blk_frozen BK142.out 0; have hfz79_1 := blk_frozen BK142.out 1; have hcz80_0 : w78.cell? ⟨gb141,0,none⟩ = some (.int .i64 ((rd_T40 l0 (ji9)).f0)) := (blk_cell BK141.out 0).trans rfl; have hcz80_1 : w78.cell? ⟨gb141,1,none⟩ = some (.int .i64 ((rd_T40 l0 (ji9)).f1)) := (blk_cell BK141.out 1).trans rfl; have hfz80_0 := blk_frozen BK141.out 0; have hfz80_1 := blk_frozen BK141.out 1) | (go_at_call 36; (with_reducible refine (spec_l01Plus.calls ((rd_T40 l0 (ji12)).f0) ((rd_T40 l0 (ji12)).f1) ((rd_T40 l0 (ji9)).f0) ((rd_T40 l0 (ji9)).f1) (-1) t151 t152 _ A69.out).mono ?_); rintro e w81 ⟨rfl,hb⟩; have n0_ := Aside0.mk (blk_below (g := gb140) (o := .cells #[.int .i64 ((rd_T40 l0 x5_2).f0),.int .i64 ((rd_T40 l0 x5_2).f1)] 40 (0,0)) (by (with_reducible repeat (first | refine blk_drewN ?_ _ | refine blk_drew ?_ | refine blk_alloc ?_ _)); exact BK140.out) hb); have n1_ := Aside0.mk (blk_below (g := gb141) (o := .cells #[.int .i64 ((rd_T40 l0 (ji9)).f0),.int .i64 ((rd_T40 l0 (ji9)).f1)] 40 (0,0)) (by (with_reducible repeat (first | refine blk_drewN ?_ _ | refine blk_drew ?_ | refine blk_alloc ?_ _)); exact BK141.out) hb); have n2_ := Aside0.mk (blk_below (g := gb142) (o := .cells #[.int .i64 ((rd_T40 l0 (ji12)).f0),.int .i64 ((rd_T40 l0 (ji12)).f1)] 40 (0,0)) (by (with_reducible repeat (first | refine blk_drewN ?_ _ | refine blk_drew ?_ | refine blk_alloc ?_ _)); exact BK142.out) hb); have n3_ := Aside0.mk (below_step (by repeat (first | (with_reducible first | exact HB.out | apply below_alloc | apply pw_below_drewN | apply below_drew1 | refine below_set ?_ GE140.out | refine below_set ?_ GE141.out | refine below_set ?_ GE142.out) | exact HB.out)) hb); clear BK140; clear BK141; clear BK142; clear HB; have BK140 := n0_; have BK141 := n1_; have BK142 := n2_; have HB := n3_; clear n0_ n1_ n2_ n3_; (try clear hb); (try clear hb2); (try clear hk); (try clear hi)) | (go_at_call 81; (with_reducible refine (spec_l09Half.calls kj36 t151 t152 t153 _ A70.out).mono ?_); rintro e w82 ⟨rfl,hb⟩; have n0_ := Aside0.mk (blk_below (g := gb140) (o := .cells #[.int .i64 ((rd_T40 l0 x5_2).f0),.int .i64 ((rd_T40 l0 x5_2).f1)] 40 (0,0)) (by (with_reducible repeat (first | refine blk_drewN ?_ _ | refine blk_drew ?_ | refine blk_alloc ?_ _)); exact BK140.out) hb); have n1_ := Aside0.mk (blk_below (g := gb141) (o := .cells #[.int .i64 ((rd_T40 l0 (ji9)).f0),.int .i64 ((rd_T40 l0 (ji9)).f1)] 40 (0,0)) (by (with_reducible repeat (first | refine blk_drewN ?_ _ | refine blk_drew ?_ | refine blk_alloc ?_ _)); exact BK141.out) hb); have n2_ := Aside0.mk (blk_below (g := gb142) (o := .cells #[.int .i64 ((rd_T40 l0 (ji12)).f0),.int .i64 ((rd_T40 l0 (ji12)).f1)] 40 (0,0)) (by (with_reducible repeat (first | refine blk_drewN ?_ _ | refine blk_drew ?_ | refine blk_alloc ?_ _)); exact BK142.out) hb); have n3_ := Aside0.mk (below_step (by repeat (first | (with_reducible first | exact HB.out | apply below_alloc | apply pw_below_drewN | apply below_drew1 | refine below_set ?_ GE140.out | refine below_set ?_ GE141.out | refine below_set ?_ GE142.out) | exact HB.out)) hb); clear BK140; clear BK141; clear BK142; clear HB; have BK140 := n0_; have BK141 := n1_; have BK142 := n2_; have HB := n3_; clear n0_ n1_ n2_ n3_; (try clear hb); (try clear hb2); (try clear hk); (try clear hi)))
                      go_roundg kj36
                      case measure => have := HJ1.out; have := HK2.out; have := HJ14.out; have := HJ36.out; omega
                      case rel => exact ⟨(wrap64 (x4_2 + 1)),(wrap64 (x5_2 + 1)),(by first | rfl | (simp; done) | (simp [*]; done)),(by first | rfl | (simp; done) | (simp [*]; done)),H',⟨by have := HJ1.out; have := HK2.out; have := HJ14.out; have := HJ36.out; omega⟩,⟨by repeat (first | (with_reducible first | exact HB.out | apply below_alloc | apply pw_below_drewN | apply below_drew1 | refine below_set ?_ GE140.out | refine below_set ?_ GE141.out | refine below_set ?_ GE142.out) | exact HB.out)⟩⟩
                     ·rw [if_neg c71] at H
                      have c71b0 : (t153 == 0) = false := beq_eq_false_iff_ne.mpr c71
                      have c71b1 : (t153 != 0) = true := bne_iff_ne.mpr c71
                      have H' := Aside0.mk H
                      clear H
                      have hnb83 := NB141_140.out
                      have hnc83 := NB140_141.out
                      have hnb84 := NB141_142.out
                      have hnc84 := NB142_141.out
                      have hcz85_0 : wc.cell? ⟨gb141,0,none⟩ = some (.int .i64 ((rd_T40 l0 (ji9)).f0)) := (blk_cell BK141.out 0).trans rfl
                      have hcz85_1 : wc.cell? ⟨gb141,1,none⟩ = some (.int .i64 ((rd_T40 l0 (ji9)).f1)) := (blk_cell BK141.out 1).trans rfl
                      have hfz85_0 := blk_frozen BK141.out 0
                      have hfz85_1 := blk_frozen BK141.out 1
                      have hnb86 := NB140_142.out
                      have hnc86 := NB142_140.out
                      have hcz87_0 : wc.cell? ⟨gb140,0,none⟩ = some (.int .i64 ((rd_T40 l0 x5_2).f0)) := (blk_cell BK140.out 0).trans rfl
                      have hcz87_1 : wc.cell? ⟨gb140,1,none⟩ = some (.int .i64 ((rd_T40 l0 x5_2).f1)) := (blk_cell BK140.out 1).trans rfl
                      have hfz87_0 := blk_frozen BK140.out 0
                      have hfz87_1 := blk_frozen BK140.out 1
                      go_wp2_with (first | ((with_reducible refine gate_callee (f := 36) rfl ?_); refine goesL_ (some 67) rfl rfl Try.func36 (by kernel_rfl) rfl #[.agg #[.int .i64 ((rd_T40 l0 (ji9)).f0),.int .i64 ((rd_T40 l0 (ji9)).f1)],.agg #[.int .i64 ((rd_T40 l0 x5_2).f0),.int .i64 ((rd_T40 l0 x5_2).f1)],.int .i64 (-1)] rfl (by (try simp only [List.map_toArray,List.map_cons,List.map_nil]); first | done | (simp only [hji9]; rfl) | rfl | (simp only [List.length_drop,List.length_take]; rfl)) ?_; (with_reducible refine (spec_l01Plus.calls ((rd_T40 l0 (ji9)).f0) ((rd_T40 l0 (ji9)).f1) ((rd_T40 l0 x5_2).f0) ((rd_T40 l0 x5_2).f1) (-1) t148 t149 _ A66.out).mono ?_); rintro e w88 ⟨rfl,hb⟩; refine ⟨_,rfl,?_⟩; have n0_ := Aside0.mk (blk_below (g := gb140) (o := .cells #[.int .i64 ((rd_T40 l0 x5_2).f0),.int .i64 ((rd_T40 l0 x5_2).f1)] 40 (0,0)) (by (with_reducible repeat (first | refine blk_drewN ?_ _ | refine blk_drew ?_ | refine blk_alloc ?_ _)); exact BK140.out) hb); have n1_ := Aside0.mk (blk_below (g := gb141) (o := .cells #[.int .i64 ((rd_T40 l0 (ji9)).f0),.int .i64 ((rd_T40 l0 (ji9)).f1)] 40 (0,0)) (by (with_reducible repeat (first | refine blk_drewN ?_ _ | refine blk_drew ?_ | refine blk_alloc ?_ _)); exact BK141.out) hb); have n2_ := Aside0.mk (blk_below (g := gb142) (o := .cells #[.int .i64 ((rd_T40 l0 (ji12)).f0),.int .i64 ((rd_T40 l0 (ji12)).f1)] 40 (0,0)) (by (with_reducible repeat (first | refine blk_drewN ?_ _ | refine blk_drew ?_ | refine blk_alloc ?_ _)); exact BK142.out) hb); have n3_ := Aside0.mk (below_step (by repeat (first | (with_reducible first | exact HB.out | apply below_alloc | apply pw_below_drewN | apply below_drew1 | refine below_set ?_ GE140.out | refine below_set ?_ GE141.out | refine below_set ?_ GE142.out) | exact HB.out)) hb); clear BK140; clear BK141; clear BK142; clear HB; have BK140 := n0_; have BK141 := n1_; have BK142 := n2_; have HB := n3_; clear n0_ n1_ n2_ n3_; (try clear hb); (try clear hb2); (try clear hk); (try clear hi)) | ((with_reducible refine gate_callee (f := 81) rfl ?_); refine goesL_ (some 68) rfl rfl Try.func81 (by kernel_rfl) rfl #[.agg #[.int .i64 t148,.int .i64 t149]] rfl (by (try simp only [List.map_toArray,List.map_cons,List.map_nil]); first | done | rfl | (simp only [List.length_drop,List.length_take]; rfl)) ?_; (with_reducible refine (spec_l09Half.calls kj36 t148 t149 t150 _ A67.out).mono ?_); rintro e w89 ⟨rfl,hb⟩; refine ⟨_,rfl,?_⟩; have n0_ := Aside0.mk (blk_below (g := gb140) (o := .cells #[.int .i64 ((rd_T40 l0 x5_2).f0),.int .i64 ((rd_T40 l0 x5_2).f1)] 40 (0,0)) (by (with_reducible repeat (first | refine blk_drewN ?_ _ | refine blk_drew ?_ | refine blk_alloc ?_ _)); exact BK140.out) hb); have n1_ := Aside0.mk (blk_below (g := gb141) (o := .cells #[.int .i64 ((rd_T40 l0 (ji9)).f0),.int .i64 ((rd_T40 l0 (ji9)).f1)] 40 (0,0)) (by (with_reducible repeat (first | refine blk_drewN ?_ _ | refine blk_drew ?_ | refine blk_alloc ?_ _)); exact BK141.out) hb); have n2_ := Aside0.mk (blk_below (g := gb142) (o := .cells #[.int .i64 ((rd_T40 l0 (ji12)).f0),.int .i64 ((rd_T40 l0 (ji12)).f1)] 40 (0,0)) (by (with_reducible repeat (first | refine blk_drewN ?_ _ | refine blk_drew ?_ | refine blk_alloc ?_ _)); exact BK142.out) hb); have n3_ := Aside0.mk (below_step (by repeat (first | (with_reducible first | exact HB.out | apply below_alloc | apply pw_below_drewN | apply below_drew1 | refine below_set ?_ GE140.out | refine below_set ?_ GE141.out | refine below_set ?_ GE142.out) | exact HB.out)) hb); clear BK140; clear BK141; clear BK142; clear HB; have BK140 := n0_; have BK141 := n1_; have BK142 := n2_; have HB := n3_; clear n0_ n1_ n2_ n3_; (try clear hb); (try clear hb2); (try clear hk); (try clear hi); have hcz90_0 : w89.cell? ⟨gb142,0,none⟩ = some (.int .i64 ((rd_T40 l0 (ji12)).f0)) := (blk_cell BK142.out 0).trans rfl; have hcz90_1 : w89.cell? ⟨gb142,1,none⟩ = some (.int .i64 ((rd_T40 l0 (ji12)).f1)) := (blk_cell BK142.out 1).trans rfl; have hfz90_0 := blk_frozen BK142.out 0; have hfz90_1 := blk_frozen BK142.out 1; have hcz91_0 : w89.cell? ⟨gb141,0,none⟩ = some (.int .i64 ((rd_T40 l0 (ji9)).f0)) := (blk_cell BK141.out 0).trans rfl; have hcz91_1 : w89.cell? ⟨gb141,1,none⟩ = some (.int .i64 ((rd_T40 l0 (ji9)).f1)) := (blk_cell BK141.out 1).trans rfl; have hfz91_0 := blk_frozen BK141.out 0; have hfz91_1 := blk_frozen BK141.out 1) | (go_at_call 36; (with_reducible refine (spec_l01Plus.calls ((rd_T40 l0 (ji12)).f0) ((rd_T40 l0 (ji12)).f1) ((rd_T40 l0 (ji9)).f0) ((rd_T40 l0 (ji9)).f1) (-1) t151 t152 _ A69.out).mono ?_); rintro e w92 ⟨rfl,hb⟩; have n0_ := Aside0.mk (blk_below (g := gb140) (o := .cells #[.int .i64 ((rd_T40 l0 x5_2).f0),.int .i64 ((rd_T40 l0 x5_2).f1)] 40 (0,0)) (by (with_reducible repeat (first | refine blk_drewN ?_ _ | refine blk_drew ?_ | refine blk_alloc ?_ _)); exact BK140.out) hb); have n1_ := Aside0.mk (blk_below (g := gb141) (o := .cells #[.int .i64 ((rd_T40 l0 (ji9)).f0),.int .i64 ((rd_T40 l0 (ji9)).f1)] 40 (0,0)) (by (with_reducible repeat (first | refine blk_drewN ?_ _ | refine blk_drew ?_ | refine blk_alloc ?_ _)); exact BK141.out) hb); have n2_ := Aside0.mk (blk_below (g := gb142) (o := .cells #[.int .i64 ((rd_T40 l0 (ji12)).f0),.int .i64 ((rd_T40 l0 (ji12)).f1)] 40 (0,0)) (by (with_reducible repeat (first | refine blk_drewN ?_ _ | refine blk_drew ?_ | refine blk_alloc ?_ _)); exact BK142.out) hb); have n3_ := Aside0.mk (below_step (by repeat (first | (with_reducible first | exact HB.out | apply below_alloc | apply pw_below_drewN | apply below_drew1 | refine below_set ?_ GE140.out | refine below_set ?_ GE141.out | refine below_set ?_ GE142.out) | exact HB.out)) hb); clear BK140; clear BK141; clear BK142; clear HB; have BK140 := n0_; have BK141 := n1_; have BK142 := n2_; have HB := n3_; clear n0_ n1_ n2_ n3_; (try clear hb); (try clear hb2); (try clear hk); (try clear hi)) | (go_at_call 81; (with_reducible refine (spec_l09Half.calls kj36 t151 t152 t153 _ A70.out).mono ?_); rintro e w93 ⟨rfl,hb⟩; have n0_ := Aside0.mk (blk_below (g := gb140) (o := .cells #[.int .i64 ((rd_T40 l0 x5_2).f0),.int .i64 ((rd_T40 l0 x5_2).f1)] 40 (0,0)) (by (with_reducible repeat (first | refine blk_drewN ?_ _ | refine blk_drew ?_ | refine blk_alloc ?_ _)); exact BK140.out) hb); have n1_ := Aside0.mk (blk_below (g := gb141) (o := .cells #[.int .i64 ((rd_T40 l0 (ji9)).f0),.int .i64 ((rd_T40 l0 (ji9)).f1)] 40 (0,0)) (by (with_reducible repeat (first | refine blk_drewN ?_ _ | refine blk_drew ?_ | refine blk_alloc ?_ _)); exact BK141.out) hb); have n2_ := Aside0.mk (blk_below (g := gb142) (o := .cells #[.int .i64 ((rd_T40 l0 (ji12)).f0),.int .i64 ((rd_T40 l0 (ji12)).f1)] 40 (0,0)) (by (with_reducible repeat (first | refine blk_drewN ?_ _ | refine blk_drew ?_ | refine blk_alloc ?_ _)); exact BK142.out) hb); have n3_ := Aside0.mk (below_step (by repeat (first | (with_reducible first | exact HB.out | apply below_alloc | apply pw_below_drewN | apply below_drew1 | refine below_set ?_ GE140.out | refine below_set ?_ GE141.out | refine below_set ?_ GE142.out) | exact HB.out)) hb); clear BK140; clear BK141; clear BK142; clear HB; have BK140 := n0_; have BK141 := n1_; have BK142 := n2_; have HB := n3_; clear n0_ n1_ n2_ n3_; (try clear hb); (try clear hb2); (try clear hk); (try clear hi)))
                      go_roundg kj36
                      case measure => have := HJ1.out; have := HK2.out; have := HJ14.out; have := HJ36.out; omega
                      case rel => exact ⟨(x4_2),(wrap64 (x5_2 + 1)),(by first | rfl | (simp; done) | (simp [*]; done)),(by first | rfl | (simp; done) | (simp [*]; done)),H',⟨by have := HJ1.out; have := HK2.out; have := HJ14.out; have := HJ36.out; omega⟩,⟨by repeat (first | (with_reducible first | exact HB.out | apply below_alloc | apply pw_below_drewN | apply below_drew1 | refine below_set ?_ GE140.out | refine below_set ?_ GE141.out | refine below_set ?_ GE142.out) | exact HB.out)⟩⟩
                    ·rw [if_neg c68] at H
                     have c68b0 : (t150 == 1) = false := beq_eq_false_iff_ne.mpr c68
                     have c68b1 : (t150 != 1) = true := bne_iff_ne.mpr c68
                     have H' := Aside0.mk H
                     clear H
                     have hnb94 := NB141_140.out
                     have hnc94 := NB140_141.out
                     have hnb95 := NB141_142.out
                     have hnc95 := NB142_141.out
                     have hcz96_0 : wc.cell? ⟨gb141,0,none⟩ = some (.int .i64 ((rd_T40 l0 (ji9)).f0)) := (blk_cell BK141.out 0).trans rfl
                     have hcz96_1 : wc.cell? ⟨gb141,1,none⟩ = some (.int .i64 ((rd_T40 l0 (ji9)).f1)) := (blk_cell BK141.out 1).trans rfl
                     have hfz96_0 := blk_frozen BK141.out 0
                     have hfz96_1 := blk_frozen BK141.out 1
                     have hnb97 := NB140_142.out
                     have hnc97 := NB142_140.out
                     have hcz98_0 : wc.cell? ⟨gb140,0,none⟩ = some (.int .i64 ((rd_T40 l0 x5_2).f0)) := (blk_cell BK140.out 0).trans rfl
                     have hcz98_1 : wc.cell? ⟨gb140,1,none⟩ = some (.int .i64 ((rd_T40 l0 x5_2).f1)) := (blk_cell BK140.out 1).trans rfl
                     have hfz98_0 := blk_frozen BK140.out 0
                     have hfz98_1 := blk_frozen BK140.out 1
                     go_wp2_with (first | ((with_reducible refine gate_callee (f := 36) rfl ?_); refine goesL_ (some 67) rfl rfl Try.func36 (by kernel_rfl) rfl #[.agg #[.int .i64 ((rd_T40 l0 (ji9)).f0),.int .i64 ((rd_T40 l0 (ji9)).f1)],.agg #[.int .i64 ((rd_T40 l0 x5_2).f0),.int .i64 ((rd_T40 l0 x5_2).f1)],.int .i64 (-1)] rfl (by (try simp only [List.map_toArray,List.map_cons,List.map_nil]); first | done | (simp only [hji9]; rfl) | rfl | (simp only [List.length_drop,List.length_take]; rfl)) ?_; (with_reducible refine (spec_l01Plus.calls ((rd_T40 l0 (ji9)).f0) ((rd_T40 l0 (ji9)).f1) ((rd_T40 l0 x5_2).f0) ((rd_T40 l0 x5_2).f1) (-1) t148 t149 _ A66.out).mono ?_); rintro e w99 ⟨rfl,hb⟩; refine ⟨_,rfl,?_⟩; have n0_ := Aside0.mk (blk_below (g := gb140) (o := .cells #[.int .i64 ((rd_T40 l0 x5_2).f0),.int .i64 ((rd_T40 l0 x5_2).f1)] 40 (0,0)) (by (with_reducible repeat (first | refine blk_drewN ?_ _ | refine blk_drew ?_ | refine blk_alloc ?_ _)); exact BK140.out) hb); have n1_ := Aside0.mk (blk_below (g := gb141) (o := .cells #[.int .i64 ((rd_T40 l0 (ji9)).f0),.int .i64 ((rd_T40 l0 (ji9)).f1)] 40 (0,0)) (by (with_reducible repeat (first | refine blk_drewN ?_ _ | refine blk_drew ?_ | refine blk_alloc ?_ _)); exact BK141.out) hb); have n2_ := Aside0.mk (blk_below (g := gb142) (o := .cells #[.int .i64 ((rd_T40 l0 (ji12)).f0),.int .i64 ((rd_T40 l0 (ji12)).f1)] 40 (0,0)) (by (with_reducible repeat (first | refine blk_drewN ?_ _ | refine blk_drew ?_ | refine blk_alloc ?_ _)); exact BK142.out) hb); have n3_ := Aside0.mk (below_step (by repeat (first | (with_reducible first | exact HB.out | apply below_alloc | apply pw_below_drewN | apply below_drew1 | refine below_set ?_ GE140.out | refine below_set ?_ GE141.out | refine below_set ?_ GE142.out) | exact HB.out)) hb); clear BK140; clear BK141; clear BK142; clear HB; have BK140 := n0_; have BK141 := n1_; have BK142 := n2_; have HB := n3_; clear n0_ n1_ n2_ n3_; (try clear hb); (try clear hb2); (try clear hk); (try clear hi)) | ((with_reducible refine gate_callee (f := 81) rfl ?_); refine goesL_ (some 68) rfl rfl Try.func81 (by kernel_rfl) rfl #[.agg #[.int .i64 t148,.int .i64 t149]] rfl (by (try simp only [List.map_toArray,List.map_cons,List.map_nil]); first | done | rfl | (simp only [List.length_drop,List.length_take]; rfl)) ?_; (with_reducible refine (spec_l09Half.calls kj36 t148 t149 t150 _ A67.out).mono ?_); rintro e w100 ⟨rfl,hb⟩; refine ⟨_,rfl,?_⟩; have n0_ := Aside0.mk (blk_below (g := gb140) (o := .cells #[.int .i64 ((rd_T40 l0 x5_2).f0),.int .i64 ((rd_T40 l0 x5_2).f1)] 40 (0,0)) (by (with_reducible repeat (first | refine blk_drewN ?_ _ | refine blk_drew ?_ | refine blk_alloc ?_ _)); exact BK140.out) hb); have n1_ := Aside0.mk (blk_below (g := gb141) (o := .cells #[.int .i64 ((rd_T40 l0 (ji9)).f0),.int .i64 ((rd_T40 l0 (ji9)).f1)] 40 (0,0)) (by (with_reducible repeat (first | refine blk_drewN ?_ _ | refine blk_drew ?_ | refine blk_alloc ?_ _)); exact BK141.out) hb); have n2_ := Aside0.mk (blk_below (g := gb142) (o := .cells #[.int .i64 ((rd_T40 l0 (ji12)).f0),.int .i64 ((rd_T40 l0 (ji12)).f1)] 40 (0,0)) (by (with_reducible repeat (first | refine blk_drewN ?_ _ | refine blk_drew ?_ | refine blk_alloc ?_ _)); exact BK142.out) hb); have n3_ := Aside0.mk (below_step (by repeat (first | (with_reducible first | exact HB.out | apply below_alloc | apply pw_below_drewN | apply below_drew1 | refine below_set ?_ GE140.out | refine below_set ?_ GE141.out | refine below_set ?_ GE142.out) | exact HB.out)) hb); clear BK140; clear BK141; clear BK142; clear HB; have BK140 := n0_; have BK141 := n1_; have BK142 := n2_; have HB := n3_; clear n0_ n1_ n2_ n3_; (try clear hb); (try clear hb2); (try clear hk); (try clear hi)))
                     go_roundg kj36
                     case measure => have := HJ1.out; have := HK2.out; have := HJ14.out; have := HJ36.out; omega
                     case rel => exact ⟨(x4_2),(wrap64 (x5_2 + 1)),(by first | rfl | (simp; done) | (simp [*]; done)),(by first | rfl | (simp; done) | (simp [*]; done)),H',⟨by have := HJ1.out; have := HK2.out; have := HJ14.out; have := HJ36.out; omega⟩,⟨by repeat (first | (with_reducible first | exact HB.out | apply below_alloc | apply pw_below_drewN | apply below_drew1 | refine below_set ?_ GE140.out | refine below_set ?_ GE141.out | refine below_set ?_ GE142.out) | exact HB.out)⟩⟩
             ·rw [if_neg c14] at H
              exact absurd H (by simp)
            ·rw [if_neg c13] at H
             exact absurd H (by simp)
           ·rw [if_neg c11] at H
            exact absurd H (by simp)
          ·rw [if_neg c10] at H
           exact absurd H (by simp)
        ·rw [if_neg c7] at H
         exact absurd H (by simp)
       ·rw [if_neg c6] at H
        exact absurd H (by simp)
      ·rw [if_neg c5] at H
       have c5b0 : decide (x5_2 < (l0.length : Int)) = false := decide_eq_false c5
       clear c5
       obtain rfl := Option.some.inj H
       go_wp2
       go_ret
       exact ⟨by first | rfl | (simp [errW_none,errW_some] <;> rfl) | (simp [*,errW_none,errW_some] <;> rfl),by repeat (first | (with_reducible first | exact HB.out | apply below_alloc | apply pw_below_drewN | apply below_drew1) | exact HB.out)⟩

end Go.Proofs.Ytpplohjbifieiaa.PE
