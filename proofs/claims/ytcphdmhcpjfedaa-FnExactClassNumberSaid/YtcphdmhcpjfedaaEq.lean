/- Two forms compared by == . -/
import Derived.Test.YtcphdmhcpjfedaaProg
import Derived.Test.YtcphdmhcpjfedaaPure
namespace Go.Proofs.Ytcphdmhcpjfedaa
open Go.RowKit

theorem held_form : Try.prog.stoodInHeld 39 = false := by kernel_rfl
theorem guard_form : Try.prog.eqGuardType Try.prog.depth 39 = false := by kernel_rfl
theorem fields_form : Try.prog.underlying 39 = some (.struct (Try.prog.fieldsOf 39)) := by kernel_rfl

theorem form_same (a b c a' b' c' : Int) (w : World) :
    (Op.equalIn 10000 39 (.agg #[.int .i64 a, .int .i64 b, .int .i64 c]) (.agg #[.int .i64 a', .int .i64 b', .int .i64 c'])).run Try.prog w = .ok (eqF a b c a' b' c') w := by
  rw [run_equalIn_struct w 9999 39 _ _ fields_form held_form]
  unfold Program.fieldsOf
  rw [Try.underlying39]
  simp [Op.eqFields, go_sem, eqF]
  by_cases h1 : a = a' <;> by_cases h2 : b = b' <;> by_cases h3 : c = c' <;> simp [h1, h2, h3]

theorem form_neq (a b c a' b' c' : Int) (w : World) :
    (binOp .neq 39 (.agg #[.int .i64 a, .int .i64 b, .int .i64 c]) (.agg #[.int .i64 a', .int .i64 b', .int .i64 c'])).run Try.prog w = .ok (.bool (!eqF a b c a' b' c')) w := by
  rw [run_neq_struct, form_same]; rfl
theorem form_eql (a b c a' b' c' : Int) (w : World) :
    (binOp .eql 39 (.agg #[.int .i64 a, .int .i64 b, .int .i64 c]) (.agg #[.int .i64 a', .int .i64 b', .int .i64 c'])).run Try.prog w = .ok (.bool (eqF a b c a' b' c')) w := by
  rw [run_eql_struct, form_same]; rfl

end Go.Proofs.Ytcphdmhcpjfedaa
