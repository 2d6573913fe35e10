-- Machine side,written by a program of this session.
-- narrowed
import Derived.Test.YtpplohjbifieiaaEx0
namespace Go.Proofs.Ytpplohjbifieiaa.PE
open Go.RowKit Go.Proofs.YtpplohjbifieiaaW.PrintWords Go.Proofs.YtpplohjbifieiaaW.PrintLast Go.Proofs.YtpplohjbifieiaaW.PrintMore
attribute [local go_sem] max2_int min2_int max_two min_two max_three min_three max_four min_four   -- for this text's walks alone
set_option linter.unusedVariables false
set_option linter.unusedSimpArgs false

theorem eqA40 (d : Nat) (w : World) (x0 y0 : Int) (x1 y1 : Int) :
  (Op.equalIn (d + 2) 40 (.agg #[.int .i64 x0,.int .i64 x1]) (.agg #[.int .i64 y0,.int .i64 y1])).run Try.prog w = .ok (x0 == y0 && (x1 == y1)) w := by
 refine eqA_arr (n := 1) Try.underlying40 (fun w => by first | exact Try.sizeOf2 w | go_simp) ?_
 show (eqElems _ _ _ _ _ [0,1]).run _ _ = _
 refine eqe_cons (by go_simp; rfl) (by go_simp; rfl) (by go_simp) ?_
 exact eqe_last (by go_simp; rfl) (by go_simp; rfl) (by go_simp)
end Go.Proofs.Ytpplohjbifieiaa.PE
