/- FnExactOrderOfMultiples: for every three numbers the program's OrderOfMultiples returns the list and the code that the reference's returns, the list lies in new memory at each call (marked, it stays marked through a further call, which answers the same again). Both are the one list of 0 .. n - 1 that is sorted by the rest of k p by q, then by k: the program's by a stable sort, the reference's by inserting. No condition. -/
import Derived.Test.YtcphdmhcpjfedaaRows
import Derived.Test.YtcphdmhcpjfedaaSk
import Derived.ProofKit
import Derived.OpenShut
namespace Go.Proofs.Ytcphdmhcpjfedaa.fnExactOrderOfMultiples
open Go.ChangeShapes Go.WideShapes Go.ChangeAt Go.RowKit
set_option linter.unusedVariables false

theorem own : ownKnob Try.prog.godebug = none := by kernel_rfl

set_option maxHeartbeats 800000 in
set_option maxRecDepth 100000 in
theorem walk_ok (p q n : Int) (h1 : Hid (plB p q = true)) (h2 : Hid (inB n 1 500 = true)) (w : World) :
    Calls Try.prog 4 #[.int .i64 p, .int .i64 q, .int .i64 n] w fun e w' => e = .returned (.bool true) ∧ Below w.heap.size w w' := by
  have hn : 1 ≤ n ∧ n ≤ 500 := by have := h2.out; simpa [inB] using this
  have hk := hn.2
  go_enter Try.func4, Try.ntmps4
  go_wp2_with (first
    | (go_at_call 13; refine (specOrder_ok p q n h1 h2 _).mono ?_; rintro e w1 ⟨L, hg, g, cap, rfl, hl, hb⟩; obtain ⟨k, hkL⟩ : ∃ k, L.length = k := ⟨_, rfl⟩; have hk5 : k ≤ 500 := (by have := hg.len; omega); have HL := Lib.hid hkL; rw [hkL] at hl ⊢; clear hkL; have A1 := (Arr.of_own hl).2.2; have G1 := hl.lt g rfl; have E1 : ((1 : Int) + k != 1 + k) = false := (by simp))
    | (go_at_call 14; have hnow := A4; refine (implOrder_ok p q n h1 h2 _).mono ?_; rintro e w5 ⟨L3, hg5, g5, cap5, rfl, hl5, hb5⟩; obtain rfl := hg5.unique hg; rw [HL.out] at hl5 ⊢; have A5 := (Arr.of_own hl5).2.2; have A15 := (A13.grown hg4 (by omega)).below hb5; have A45 := A4.below hb5)
    | (go_at_call 14; refine (implOrder_ok p q n h1 h2 _).mono ?_; rintro e w2 ⟨L2, hg2, g2, cap2, rfl, hl2, hb2⟩; obtain rfl := hg2.unique hg; rw [HL.out] at hl2 ⊢; have A2 := (Arr.of_own hl2).2.2; have G2 := hl2.lt g2 rfl; have A1' := A1.below hb2)
    | (go_at_call 15; refine (eqInts_any k g5 cap5 g cap _ _ A5 A15 (by omega)).mono ?_; rintro e w6 ⟨rfl, m6, hm6⟩; have Hm6 := Lib.hid hm6; have A46 := A45.drewN m6; rw [← Hm6.out] at A46; clear hm6)
    | (go_at_call 15; refine (eqInts_any k g2 cap2 g cap _ _ A2 A1' (by omega)).mono ?_; rintro e w3 ⟨rfl, m3, hm3⟩; have Hm3 := Lib.hid hm3; have A3 := A2.drewN m3; have A13 := A1'.drewN m3; rw [← Hm3.out] at A3 A13; clear hm3)
    | (go_at_call 16; refine (mark_any 1 k g2 cap2 _ _ A3 (by omega) (by omega)).mono ?_; rintro e w4 ⟨rfl, A4, hg4⟩)
    | (go_at_call 17; refine (held_any 1 k g2 cap2 _ A46 (by omega) (by omega)).mono ?_; rintro e w7 ⟨rfl, rfl⟩)
    | (go_at_call 17; refine (held_any 1 k g2 cap2 _ A4 (by omega) (by omega)).mono ?_; rintro e w7 ⟨rfl, rfl⟩))
  go_ret
  refine ⟨rfl, ?_⟩
  have b2 : Below w.heap.size w w2 := hb.trans (hb2.mono hb.size)
  have b3 : Below w.heap.size w w3 := by rw [Hm3.out]; exact ⟨b2.os, b2.tape, b2.output, b2.size, b2.block⟩
  have b4 := b3.grown hg4 b3.size (fun k hk => by injection hk with hk; have := hb.size; omega)
  have b5 := b4.trans (hb5.mono b4.size)
  rw [Hm6.out]; exact ⟨b5.os, b5.tape, b5.output, b5.size, b5.block⟩

set_option maxRecDepth 100000 in
theorem walk_bad (p q n : Int) (h : Hid (¬ (plB p q = true ∧ inB n 1 500 = true))) (w : World) :
    Calls Try.prog 4 #[.int .i64 p, .int .i64 q, .int .i64 n] w fun e w' => e = .returned (.bool true) ∧ Below w.heap.size w w' := by
  go_enter Try.func4, Try.ntmps4
  go_wp2_with (first
    | (go_at_call 13; refine (specOrder_bad p q n h _).mono ?_; rintro e w' ⟨rfl, rfl⟩)
    | (go_at_call 14; refine (implOrder_bad p q n h _).mono ?_; rintro e w' ⟨rfl, rfl⟩)
    | (go_at_call 15; refine (eqInts_nil _).mono ?_; rintro e w' ⟨rfl, rfl⟩)
    | (go_at_call 16; refine (mark_nil _ _).mono ?_; rintro e w' ⟨rfl, rfl⟩)
    | (go_at_call 17; refine (held_nil _ _).mono ?_; rintro e w' ⟨rfl, rfl⟩))
  go_ret
  exact ⟨rfl, Below.refl _ _⟩

theorem walk (a0 a1 a2 : Int) (w0 : (Lit.int .i64 a0).wf = true) (w1 : (Lit.int .i64 a1).wf = true) (w2 : (Lit.int .i64 a2).wf = true) (w : World) :
    Calls Try.prog 4 #[.int .i64 a0, .int .i64 a1, .int .i64 a2] w fun e w' => e = .returned (.bool true) ∧ Below w.heap.size w w' := by
  by_cases h : plB a0 a1 = true ∧ inB a2 1 500 = true
  · exact walk_ok a0 a1 a2 h.1 h.2 w
  · exact walk_bad a0 a1 a2 h w

set_option maxRecDepth 100000 in
theorem lifted (os : Os) (started : os.Started) (H : Type) (enc : TypeId × Value → H) :
    ReturnsInHanded {} Try.checked os 4 .any (Rows.fnExactOrderOfMultiplesSpec.pre6 enc Try.prog Try.f4 Rows.fnExactOrderOfMultiplesRow.domain false) (Rows.fnExactOrderOfMultiplesSpec.post enc Try.prog Try.f4 false true false false) := by
  refine returnsInHanded_of_change (C := Try.checked) own started (by kernel_rfl) Try.func4
    (ChangeSpec.witness6 (enc := enc) (C := Try.checked) false ⟨#[], #[.int .i64 0, .int .i64 0, .int .i64 0], []⟩ 8 (by kernel_rfl) (by kernel_rfl) (by kernel_rfl) (by kernel_rfl)) ?_
  intro W base args ds gs before hval0 hW hcnd _
  have hval : ∀ (j : Nat) t v, Try.f4.params[j]? = some t → args[j]? = some v → Value.okWide Try.prog W .any base t v := hval0
  have hW' := hW
  obtain ⟨p, q, hA0, hV, rfl, hfz, hnd⟩ := hW
  have hA : DataW.TrodAll enc Try.prog W 0 (fun _ => true) true Try.f4.params.toList args.toList ds p := hA0
  rw [Try.params4] at hA hval
  obtain ⟨v0, vs0, d0, ds0, p0, q0, hargs, rfl, rfl, h0, r0⟩ := trodAll_cons hA
  obtain ⟨v1, vs1, d1, ds1, p1, q1, rfl, rfl, rfl, h1, r1⟩ := trodAll_cons r0
  obtain ⟨v2, vs2, d2, ds2, p2, q2, rfl, rfl, rfl, h2, r2⟩ := trodAll_cons r1
  obtain ⟨rfl, rfl, rfl⟩ := trodAll_nil r2
  obtain rfl : args = #[v0, v1, v2] := by cases args; simp_all
  obtain ⟨rfl, rfl⟩ := trodVars_none hV
  obtain ⟨a0, rfl, rfl, rfl, w0⟩ := open_int Try.underlying2 (hval 0 2 v0 rfl rfl) h0
  obtain ⟨a1, rfl, rfl, rfl, w1⟩ := open_int Try.underlying2 (hval 1 2 v1 rfl rfl) h1
  obtain ⟨a2, rfl, rfl, rfl, w2⟩ := open_int Try.underlying2 (hval 2 2 v2 rfl rfl) h2
  clear hA0 hval0
  simp only [List.append_nil] at hW'
  refine (walk a0 a1 a2 w0 w1 w2 W).mono fun e W' ⟨he, bel⟩ => ?_
  subst he
  exact ⟨_, rfl, _, _, _, [], _, [], hW', trodAll_mk1 (shut_bool Try.underlying4 _), (trodAll_cons_mk (shut_int Try.underlying2 w0) (trodAll_cons_mk (shut_int Try.underlying2 w1) (trodAll_cons_mk (shut_int Try.underlying2 w2) trodAll_mk0))), rfl, bel.frame _, fun h => by cases h⟩

theorem over : Rows.fnExactOrderOfMultiplesRow.holds Try.pinned (OpenSpec.ofChange Rows.fnExactOrderOfMultiplesSpec) :=
  OpenClaim.holds_of_wide 4 Try.f4 rfl rfl rfl rfl rfl rfl rfl ⟨rfl, rfl, rfl, rfl, rfl⟩ rfl rfl rfl rfl rfl (by kernel_rfl) Try.func4 (by kernel_rfl)
    (of_decide_eq_true (by kernel_rfl)) (by unfold Func.isWrapper; first | (rw [if_pos (by decide +kernel)]; kernel_rfl) | (rw [if_neg (by decide +kernel)]; exact ⟨rfl, rfl⟩))
    (fun os started H enc _ => lifted os started H enc)

theorem proved : Rows.FnExactOrderOfMultiplesSaid := over
#print axioms proved
end Go.Proofs.Ytcphdmhcpjfedaa.fnExactOrderOfMultiples

