/- FnExactClassNumber: for every number the program's ClassNumber returns the number and the code that the reference's returns: both count the cycles of the reduced forms of the discriminant (one with a map of the forms met, one with a list), and return the same code where the number is no discriminant in range. No condition. -/
import Derived.Test.YtcphdmhcpjfedaaRows
import Derived.Test.YtcphdmhcpjfedaaCni
import Derived.ProofKit
import Derived.OpenShut
namespace Go.Proofs.Ytcphdmhcpjfedaa.fnExactClassNumber
open Go.ChangeShapes Go.WideShapes Go.ChangeAt Go.RowKit
set_option linter.unusedVariables false

theorem own : ownKnob Try.prog.godebug = none := by kernel_rfl

theorem implBad (d c : Int) (hc : Hid (dcode d = c)) (h0 : c ≠ 0) (w : World) :
    Calls Try.prog 12 #[.int .i64 d] w fun e w' => e = .returned (.tuple #[.int .i64 0, .int .i64 c]) ∧ w = w' := by
  have h1 : (c != 0) = true := by simpa using h0
  go_enter Try.func12, Try.ntmps12
  go_wp2_with (first | (go_at_call 101; refine (discFault_any d _).mono ?_; rw [hc.out]; rintro e w' ⟨rfl, rfl⟩))
  go_ret2
  exact ⟨rfl, rfl⟩

theorem specBad (d c : Int) (hc : Hid (dcode d = c)) (h0 : c ≠ 0) (w : World) :
    Calls Try.prog 11 #[.int .i64 d] w fun e w' => e = .returned (.tuple #[.int .i64 0, .int .i64 c]) ∧ w = w' := by
  have h1 : (c != 0) = true := by simpa using h0
  go_enter Try.func11, Try.ntmps11
  go_wp2_with (first | (go_at_call 98; refine (l06All_bad d c hc.out h0 _).mono ?_; rintro e w' ⟨rfl, rfl⟩))
  go_ret2
  exact ⟨rfl, rfl⟩

/-- both return the same two numbers -/
theorem both (d : Int) : ∃ n c : Int, (∀ w : World, Calls Try.prog 11 #[.int .i64 d] w fun e w' => e = .returned (.tuple #[.int .i64 n, .int .i64 c]) ∧ Below w.heap.size w w') ∧
    (∀ w : World, Calls Try.prog 12 #[.int .i64 d] w fun e w' => e = .returned (.tuple #[.int .i64 n, .int .i64 c]) ∧ Below w.heap.size w w') := by
  by_cases h : dcode d = 0
  · obtain ⟨hd, h4⟩ := dcode_zero h
    refine ⟨(stS (reds d) (reds d).length).1, 0, specClassNumber_ok d hd h4, fun w => ?_⟩
    have e : (stI (reds d) (reds d).length).1 = (stS (reds d) (reds d).length).1 := by
      unfold stI stS
      rw [List.take_length]
      exact steps_agree _ _ _ rfl (fun _ => Iff.rfl)
    rw [← e]
    exact implClassNumber_ok d hd h w
  · exact ⟨0, dcode d, fun w => (specBad d _ (Lib.hid rfl) h w).mono fun _ _ g => ⟨g.1, g.2 ▸ Below.refl _ _⟩, fun w => (implBad d _ (Lib.hid rfl) h w).mono fun _ _ g => ⟨g.1, g.2 ▸ Below.refl _ _⟩⟩

theorem walk (a0 : Int) (w0 : (Lit.int .i64 a0).wf = true) (w : World) :
    Calls Try.prog 3 #[.int .i64 a0] w fun e w' => e = .returned (.bool true) ∧ Below w.heap.size w w' := by
  obtain ⟨n, c, h1, h2⟩ := both a0
  have H1 := Lib.hid h1
  have H2 := Lib.hid h2
  clear h1 h2
  have e1 : (n != n) = false := by simp
  have e2 : (c != c) = false := by simp
  go_enter Try.func3, Try.ntmps3
  go_wp2_with (first | (go_at_call 11; refine (H1.out _).mono ?_; rintro e w1 ⟨rfl, hb1⟩) | (go_at_call 12; refine (H2.out _).mono ?_; rintro e w2 ⟨rfl, hb2⟩))
  go_ret
  exact ⟨rfl, hb1.trans (hb2.mono hb1.size)⟩

set_option maxRecDepth 100000 in
theorem lifted (os : Os) (started : os.Started) (H : Type) (enc : TypeId × Value → H) :
    ReturnsInHanded {} Try.checked os 3 .any (Rows.fnExactClassNumberSpec.pre6 enc Try.prog Try.f3 Rows.fnExactClassNumberRow.domain false) (Rows.fnExactClassNumberSpec.post enc Try.prog Try.f3 false true false false) := by
  refine returnsInHanded_of_change (C := Try.checked) own started (by kernel_rfl) Try.func3
    (ChangeSpec.witness6 (enc := enc) (C := Try.checked) false ⟨#[], #[.int .i64 0], []⟩ 8 (by kernel_rfl) (by kernel_rfl) (by kernel_rfl) (by kernel_rfl)) ?_
  intro W base args ds gs before hval0 hW hcnd _
  have hval : ∀ (j : Nat) t v, Try.f3.params[j]? = some t → args[j]? = some v → Value.okWide Try.prog W .any base t v := hval0
  have hW' := hW
  obtain ⟨p, q, hA0, hV, rfl, hfz, hnd⟩ := hW
  have hA : DataW.TrodAll enc Try.prog W 0 (fun _ => true) true Try.f3.params.toList args.toList ds p := hA0
  rw [Try.params3] at hA hval
  obtain ⟨v0, vs0, d0, ds0, p0, q0, hargs, rfl, rfl, h0, r0⟩ := trodAll_cons hA
  obtain ⟨rfl, rfl, rfl⟩ := trodAll_nil r0
  obtain rfl : args = #[v0] := by cases args; simp_all
  obtain ⟨rfl, rfl⟩ := trodVars_none hV
  obtain ⟨a0, rfl, rfl, rfl, w0⟩ := open_int Try.underlying2 (hval 0 2 v0 rfl rfl) h0
  clear hA0 hval0
  refine (walk a0 w0 W).mono fun e W' ⟨he, bel⟩ => ?_
  subst he
  exact ⟨_, rfl, _, _, _, [], _, [], hW', trodAll_mk1 (shut_bool Try.underlying4 _), (trodAll_cons_mk (shut_int Try.underlying2 w0) trodAll_mk0), rfl, bel.frame _, fun h => by cases h⟩

theorem over : Rows.fnExactClassNumberRow.holds Try.pinned (OpenSpec.ofChange Rows.fnExactClassNumberSpec) :=
  OpenClaim.holds_of_wide 3 Try.f3 rfl rfl rfl rfl rfl rfl rfl ⟨rfl, rfl, rfl, rfl, rfl⟩ rfl rfl rfl rfl rfl (by kernel_rfl) Try.func3 (by kernel_rfl)
    (of_decide_eq_true (by kernel_rfl)) (by unfold Func.isWrapper; first | (rw [if_pos (by decide +kernel)]; kernel_rfl) | (rw [if_neg (by decide +kernel)]; exact ⟨rfl, rfl⟩))
    (fun os started H enc _ => lifted os started H enc)

theorem proved : Rows.FnExactClassNumberSaid := over
#print axioms proved
end Go.Proofs.Ytcphdmhcpjfedaa.fnExactClassNumber
