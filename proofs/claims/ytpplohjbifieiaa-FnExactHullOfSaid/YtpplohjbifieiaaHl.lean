/- The statement FnExactHullOf over lists alone. -/
import Derived.Test.YtpplohjbifieiaaHz
import Derived.Test.YtpplohjbifieiaaLp
namespace Go.Proofs.Ytpplohjbifieiaa.PD
open Go.RowKit Go.Proofs.YtpplohjbifieiaaW.PrintWords Go.Proofs.YtpplohjbifieiaaW.PrintLast Go.Proofs.YtpplohjbifieiaaW.PrintMore

theorem pure_hull (l : List S35) (hl : l.length ≤ 17592186044416) : Ev (fun k => laws_FnExactHullOf.f k l) true := by
  unfold laws_FnExactHullOf.f
  rw [size_eq l 1048576 (by omega) (by omega) hl]
  refine Ev.bind0 rfl ?_
  by_cases hs : (1048576 : Int) < l.length
  · rw [if_pos hs]
    exact Ev.pos (by omega) (Ev.pure _)
  · rw [if_neg hs]
    have hm : l.length < 1000000000 := by omega
    obtain ⟨⟨R, c⟩, hR, h1, h2⟩ := both_hull (cvL l) (by rw [cvL_len]; omega)
    simp only at hR
    have hc := cvL_len l
    refine Ev.neg (by omega) (Ev.bind (toPointS_ev l hm) (Ev.bind h1 (Ev.bind (toPointS_ev l hm) (Ev.bind h2 (Ev.bind (eqPointS_ev _ (by first | omega | (simp only; omega))) (Ev.pos rfl ?_))))))
    refine Ev.step (fun k => by rw [laws_FnExactHullOf.j0]) (Ev.neg (by simp) ?_)
    refine Ev.bind (toPointS_ev l hm) (Ev.bind (eqPointS_ev _ (by first | omega | (simp only; omega))) (Ev.pos rfl (Ev.bind (mark_ev _ (by first | omega | (simp only; omega))) (Ev.neg (by simp; omega) (Ev.bind (eqPointS_ev _ (by first | omega | (simp only; omega))) (Ev.pos rfl ?_))))))
    refine Ev.step (fun k => by rw [laws_FnExactHullOf.j1]) (Ev.neg (by simp) ?_)
    refine Ev.bind (mark_ev _ (by first | omega | (simp only; omega))) (Ev.bind (held_ev _ (by first | omega | (simp only; omega))) (Ev.neg (by omega) (Ev.pos rfl ?_)))
    refine Ev.bind (toPointS_ev l hm) (Ev.bind h2 (Ev.bind (eqPointS_ev _ (by first | omega | (simp only; omega))) (Ev.pos rfl ?_)))
    refine Ev.step (fun k => by rw [laws_FnExactHullOf.j2]) (Ev.neg (by simp) ?_)
    exact Ev.bind (held_ev _ (by first | omega | (simp only; omega))) (Ev.neg (by omega) (Ev.pos rfl (Ev.pure _)))
end Go.Proofs.Ytpplohjbifieiaa.PD
