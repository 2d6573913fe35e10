/- What both tests of a polygon come to. -/
import Derived.Test.YtpplohjbifieiaaEx
import Derived.Test.YtpplohjbifieiaaEv
import Derived.Test.YtpplohjbifieiaaPq
namespace Go.Proofs.Ytpplohjbifieiaa.PE
open Go.RowKit Go.Proofs.YtpplohjbifieiaaW.PrintWords Go.Proofs.YtpplohjbifieiaaW.PrintLast Go.Proofs.YtpplohjbifieiaaW.PrintMore
open Poly (Pt)

def pt (p : S40) : Pt := ⟨p.f0, p.f1⟩
def pts (L : List S40) : List Pt := L.map pt
theorem pts_len (L : List S40) : (pts L).length = L.length := by simp [pts]
theorem rd_cyc (L : List S40) (i : Nat) (h : i < L.length) : pt (rd_T40 L (i : Int)) = cyc (pts L) i := by
  rw [cyc_lt (by rw [pts_len]; exact h)]
  simp [rd_T40, pts, h]
theorem rd_x {L : List S40} {i : Nat} (h : i < L.length) : (rd_T40 L (i : Int)).f0 = (cyc (pts L) i).x := by rw [← rd_cyc L i h]; rfl
theorem rd_y {L : List S40} {i : Nat} (h : i < L.length) : (rd_T40 L (i : Int)).f1 = (cyc (pts L) i).y := by rw [← rd_cyc L i h]; rfl

theorem in_eq (x lo hi : Int) : spec_l01In.f x lo hi = some (inB x lo hi) := by
  unfold spec_l01In.f inB
  by_cases h : x ≥ lo
  · rw [if_pos h]; simp [h]
  · rw [if_neg h]; simp [h]
theorem fits_eq (x : Int) : spec_l01Fits.f x = some (inB x (-1000000) 1000000) := by unfold spec_l01Fits.f; rw [in_eq]; rfl
theorem is_eq (x y : Int) : spec_l01Is.f x y = some (fitB x y 1000000) := by
  unfold spec_l01Is.f fitB
  rw [fits_eq, fits_eq]
  simp only [Option.bind_some]
  cases inB x (-1000000) 1000000 <;> simp
theorem fitB_iff {p : Pt} {M : Int} : fitB p.x p.y M = true ↔ Bd M p := by
  unfold fitB inB
  simp only [Bool.and_eq_true, decide_eq_true_eq]
  exact ⟨fun h => ⟨h.1.1, h.1.2, h.2.1, h.2.2⟩, fun h => ⟨⟨h.x0, h.x1⟩, ⟨h.y0, h.y1⟩⟩⟩
theorem inB_iff {n lo hi : Int} : inB n lo hi = true ↔ lo ≤ n ∧ n ≤ hi := by simp [inB]

theorem sub_eq {a b c d : Int} (ha : -1000000000 ≤ a) (ha' : a ≤ 1000000000) (hb : -1000000000 ≤ b) (hb' : b ≤ 1000000000) (hc : -1000000000 ≤ c) (hc' : c ≤ 1000000000) (hd : -1000000000 ≤ d) (hd' : d ≤ 1000000000) :
    spec_l01Plus.f a b c d (-1) = some (a - c, b - d) := by
  unfold spec_l01Plus.f
  rw [w64 (x := -1 * c) (by omega) (by omega), w64 (x := -1 * d) (by omega) (by omega), w64 (by omega) (by omega), w64 (by omega) (by omega)]
  congr 2 <;> omega
theorem sub_pt {p q : Pt} (hp : Bd 1000000000 p) (hq : Bd 1000000000 q) : spec_l01Plus.f p.x p.y q.x q.y (-1) = some ((Poly.sub p q).x, (Poly.sub p q).y) :=
  sub_eq hp.x0 hp.x1 hp.y0 hp.y1 hq.x0 hq.x1 hq.y0 hq.y1
theorem less_pt {p q : Pt} (hp : Bd 1000000000 p) (hq : Bd 1000000000 q) : impl_Point_less.f p.x p.y q.x q.y = some ((Poly.sub p q).x, (Poly.sub p q).y) := by
  have h := sub_pt hp hq
  unfold impl_Point_less.f impl_Point_plus.f
  unfold spec_l01Plus.f at h
  rw [h]; rfl
theorem det_pt {p q : Pt} (hp : Bd 100000000 p) (hq : Bd 100000000 q) : spec_l01Det.f p.x p.y q.x q.y = some (Poly.det p q) := by
  unfold spec_l01Det.f Poly.det
  obtain ⟨a0, a1, a2, a3⟩ := hp
  obtain ⟨b0, b1, b2, b3⟩ := hq
  obtain ⟨m0, m1⟩ := abs_mul_le a0 a1 b2 b3
  obtain ⟨m2, m3⟩ := abs_mul_le a2 a3 b0 b1
  rw [w64 (x := p.x * q.y) (by omega) (by omega), w64 (x := p.y * q.x) (by omega) (by omega), w64 (by omega) (by omega)]
theorem idet_pt {p q : Pt} (hp : Bd 100000000 p) (hq : Bd 100000000 q) : impl_det.f p.x p.y q.x q.y = some (Poly.det p q) := det_pt hp hq
theorem side_pt {a b c : Pt} (ha : Bd 1000000 a) (hb : Bd 1000000 b) (hc : Bd 1000000 c) : spec_l09Side.f a.x a.y b.x b.y c.x c.y = some (turnD a b c) := by
  unfold spec_l09Side.f turnD
  rw [sub_pt (hb.mono (by omega)) (ha.mono (by omega)), sub_pt (hc.mono (by omega)) (hb.mono (by omega))]
  simp only [Option.bind_some]
  rw [det_pt ((hb.sub ha).mono (by omega)) ((hc.sub hb).mono (by omega))]
  rfl
theorem turn_pt {a b c : Pt} (ha : Bd 1000000 a) (hb : Bd 1000000 b) (hc : Bd 1000000 c) : impl_turn.f a.x a.y b.x b.y c.x c.y = some (turnD a b c) := by
  unfold impl_turn.f turnD
  rw [less_pt (hb.mono (by omega)) (ha.mono (by omega)), less_pt (hc.mono (by omega)) (hb.mono (by omega))]
  simp only [Option.bind_some]
  rw [idet_pt ((hb.sub ha).mono (by omega)) ((hc.sub hb).mono (by omega))]
  rfl
open Classical in
theorem half_ev (p : Pt) : Ev (fun k => spec_l09Half.f k p.x p.y) (if Poly.up p then 0 else 1) := by
  unfold spec_l09Half.f
  have j : ∀ b : Bool, Ev (fun k => spec_l09Half.j0 k b) (if b = true then 0 else 1) := fun b => by
    refine Ev.step (fun k => by rw [spec_l09Half.j0]) ?_
    cases b
    · exact Ev.neg (by simp) (Ev.pure _)
    · exact Ev.pos rfl (Ev.pure _)
  by_cases h1 : p.y > 0
  · refine Ev.pos h1 ((j true).eq ?_)
    rw [if_pos (show Poly.up p from .inl h1)]; rfl
  · refine Ev.neg h1 ?_
    by_cases h2 : p.y = 0
    · refine Ev.pos h2 ((j _).eq ?_)
      by_cases h3 : p.x > 0
      · rw [if_pos (show Poly.up p from .inr ⟨h2, h3⟩)]; simp [h3]
      · rw [if_neg (show ¬ Poly.up p by unfold Poly.up; omega)]; simp [h3]
    · refine Ev.neg h2 ((j _).eq ?_)
      rw [if_neg (show ¬ Poly.up p by unfold Poly.up; omega)]; rfl

theorem is_loop (L : List S40) (h3 : 3 ≤ L.length) (h12 : L.length ≤ 12) : ∀ d i t, i + d = L.length → t = Poly.ups (cyc (pts L)) i → (∀ j, j < i → Bd 1000 (cyc (pts L) j)) → (∀ j, j < i → 0 < turnD (cyc (pts L) j) (cyc (pts L) (j + 1)) (cyc (pts L) (j + 2))) →
    Ev (fun k => spec_l09Is.l0 k L (L.length : Int) (t : Nat) (i : Nat)) (polyB (pts L)) := by
  have hl := pts_len L
  intro d
  induction d with
  | zero =>
    intro i t hi ht hf hs
    refine Ev.step (fun k => by rw [spec_l09Is.l0]) (Ev.neg (by omega) ((Ev.pure _).eq ?_))
    have e : i = L.length := by omega
    subst e
    by_cases h1 : t = 1
    · subst h1
      rw [polyB_true ⟨by omega, by omega, by rw [hl]; exact hf, by rw [hl]; exact hs, by rw [hl]; exact ht.symm⟩]; rfl
    · rw [polyB_false (fun h => h1 (by have := h.once; rw [hl] at this; omega))]
      simp; omega
  | succ d ih =>
    intro i t hi ht hf hs
    have hlt : i < L.length := by omega
    have htl : t ≤ 12 := by have := Poly.ups_le (P := cyc (pts L)) i; omega
    have e1 := tmod_nat i L.length (by omega)
    have e2 := tmod_nat2 i L.length (by omega)
    have m1 : (i + 1) % L.length < L.length := Nat.mod_lt _ (by omega)
    have m2 : (i + 2) % L.length < L.length := Nat.mod_lt _ (by omega)
    have c1 : cyc (pts L) ((i + 1) % L.length) = cyc (pts L) (i + 1) := cyc_of_mod hl.symm rfl
    have c2 : cyc (pts L) ((i + 2) % L.length) = cyc (pts L) (i + 2) := cyc_of_mod hl.symm rfl
    refine Ev.step (fun k => by rw [spec_l09Is.l0]) ?_
    rw [e1, e2, rd_x hlt, rd_y hlt, rd_x m1, rd_y m1, rd_x m2, rd_y m2, c1, c2]
    obtain ⟨a, ha⟩ : ∃ a, cyc (pts L) i = a := ⟨_, rfl⟩
    obtain ⟨b, hb⟩ : ∃ b, cyc (pts L) (i + 1) = b := ⟨_, rfl⟩
    obtain ⟨c, hc⟩ : ∃ c, cyc (pts L) (i + 2) = c := ⟨_, rfl⟩
    rw [ha, hb, hc, in_eq, in_eq]
    refine Ev.pos (by omega) (Ev.pos (by omega) (Ev.pos (by omega) (Ev.neg (by omega) (Ev.pos (by omega) (Ev.pos (by omega) (Ev.pos (by omega) (Ev.pos (by omega) ?_)))))))
    simp only [Option.bind_some]
    have no : ∀ z : Bool, z = true → ¬ PolyOk (pts L) → Ev (fun k => spec_l09Is.j2 k L (L.length : Int) (t : Nat) (i : Nat) z a.x a.y b.x b.y c.x c.y) (polyB (pts L)) := fun z hz hn => by
      refine Ev.step (fun k => by rw [spec_l09Is.j2]) (Ev.pos hz ((Ev.pure _).eq (polyB_false hn).symm))
    by_cases hA : Bd 1000 a
    · have hx : inB a.x (-1000) 1000 = true := inB_iff.2 ⟨hA.x0, hA.x1⟩
      have hy : inB a.y (-1000) 1000 = true := inB_iff.2 ⟨hA.y0, hA.y1⟩
      rw [hx, hy]
      refine Ev.pos rfl (Ev.step (fun k => by rw [spec_l09Is.j2]) (Ev.neg (by simp) ?_))
      rw [is_eq, is_eq]
      simp only [Option.bind_some]
      have no3 : ∀ z : Bool, z = true → ¬ PolyOk (pts L) → Ev (fun k => spec_l09Is.j3 k L (L.length : Int) (t : Nat) (i : Nat) z a.x a.y b.x b.y c.x c.y) (polyB (pts L)) := fun z hz hn => by
        refine Ev.step (fun k => by rw [spec_l09Is.j3]) (Ev.pos hz ((Ev.pure _).eq (polyB_false hn).symm))
      have okB : PolyOk (pts L) → Bd 1000 b := fun h => by rw [← hb, ← c1]; exact h.fits _ (by rw [hl]; exact m1)
      have okC : PolyOk (pts L) → Bd 1000 c := fun h => by rw [← hc, ← c2]; exact h.fits _ (by rw [hl]; exact m2)
      by_cases hB : Bd 1000000 b
      · by_cases hC : Bd 1000000 c
        · rw [fitB_iff.2 hB, fitB_iff.2 hC, side_pt (hA.mono (by omega)) hB hC]
          simp only [Option.bind_some]
          refine Ev.pos trivial (Ev.pos trivial ?_)
          by_cases hT : 0 < turnD a b c
          · rw [show decide (turnD a b c ≤ 0) = false by simp; omega]
            refine Ev.step (fun k => by rw [spec_l09Is.j3]) (Ev.neg (by simp) ?_)
            rw [sub_pt (hB.mono (by omega)) (hA.mono (by omega)), sub_pt (hC.mono (by omega)) (hB.mono (by omega))]
            simp only [Option.bind_some]
            have nf : ∀ j, j < i + 1 → Bd 1000 (cyc (pts L) j) := fun j hj => by
              rcases Nat.lt_or_ge j i with h | h
              · exact hf j h
              · obtain rfl : j = i := by omega
                rw [ha]; exact hA
            have ns : ∀ j, j < i + 1 → 0 < turnD (cyc (pts L) j) (cyc (pts L) (j + 1)) (cyc (pts L) (j + 2)) := fun j hj => by
              rcases Nat.lt_or_ge j i with h | h
              · exact hs j h
              · obtain rfl : j = i := by omega
                rw [ha, hb, hc]; exact hT
            have w1 : wrap64 ((t : Int) + 1) = ((t + 1 : Nat) : Int) := by rw [w64 (by omega) (by omega)]; simp
            have w2 : wrap64 ((i : Int) + 1) = ((i + 1 : Nat) : Int) := by rw [w64 (by omega) (by omega)]; simp
            rw [w1, w2]
            refine Ev.bind (half_ev _) ?_
            have cr : Poly.crs (cyc (pts L)) i ↔ ¬ Poly.up (Poly.sub b a) ∧ Poly.up (Poly.sub c b) := by
              unfold Poly.crs Poly.side; rw [ha, hb, hc]
            by_cases u1 : Poly.up (Poly.sub b a)
            · rw [if_pos u1]
              refine Ev.neg (by omega) (ih (i + 1) t (by omega) ?_ nf ns)
              rw [Poly.ups, if_neg (by rw [cr]; exact fun h => h.1 u1)]; omega
            · rw [if_neg u1]
              refine Ev.pos rfl (Ev.bind (half_ev _) ?_)
              by_cases u2 : Poly.up (Poly.sub c b)
              · rw [if_pos u2]
                refine Ev.pos rfl (ih (i + 1) (t + 1) (by omega) ?_ nf ns)
                rw [Poly.ups, if_pos (by rw [cr]; exact ⟨u1, u2⟩)]; omega
              · rw [if_neg u2]
                refine Ev.neg (by omega) (ih (i + 1) t (by omega) ?_ nf ns)
                rw [Poly.ups, if_neg (by rw [cr]; exact fun h => u2 h.2)]; omega
          · exact no3 _ (by simp; omega) (fun h => hT (by have := h.left i (by rw [hl]; exact hlt); rwa [ha, hb, hc] at this))
        · have hC' : fitB c.x c.y 1000000 = false := by
            cases hq : fitB c.x c.y 1000000 with
            | false => rfl
            | true => exact absurd (fitB_iff.1 hq) hC
          rw [fitB_iff.2 hB, hC']
          exact Ev.pos rfl (Ev.neg (by simp) (no3 _ rfl (fun h => hC ((okC h).mono (by omega)))))
      · have hB' : fitB b.x b.y 1000000 = false := by
          cases hq : fitB b.x b.y 1000000 with
          | false => rfl
          | true => exact absurd (fitB_iff.1 hq) hB
        rw [hB']
        exact Ev.neg (by simp) (no3 _ rfl (fun h => hB ((okB h).mono (by omega))))
    · have hn : ¬ PolyOk (pts L) := fun h => hA (by rw [← ha]; exact h.fits i (by rw [hl]; exact hlt))
      by_cases hx : inB a.x (-1000) 1000 = true
      · rw [hx]
        refine Ev.pos rfl (no _ ?_ hn)
        cases hy : inB a.y (-1000) 1000 with
        | false => rfl
        | true => exact absurd ⟨(inB_iff.1 hx).1, (inB_iff.1 hx).2, (inB_iff.1 hy).1, (inB_iff.1 hy).2⟩ hA
      · exact Ev.neg hx (no _ rfl hn)

theorem is_ev (L : List S40) : Ev (fun k => spec_l09Is.f k L) (polyB (pts L)) := by
  unfold spec_l09Is.f
  have hl := pts_len L
  have j : ∀ z : Bool, (z = true → ¬ PolyOk (pts L)) → (z = false → 3 ≤ L.length ∧ L.length ≤ 12) → Ev (fun k => spec_l09Is.j0 k L (L.length : Int) z) (polyB (pts L)) := fun z h1 h2 => by
    refine Ev.step (fun k => by rw [spec_l09Is.j0]) ?_
    cases z
    · obtain ⟨a, b⟩ := h2 rfl
      exact Ev.neg (by simp) (is_loop L a b L.length 0 0 (by omega) rfl (fun j hj => by omega) (fun j hj => by omega))
    · exact Ev.pos rfl ((Ev.pure _).eq (polyB_false (h1 rfl)).symm)
  by_cases h : (L.length : Int) < 3
  · exact Ev.pos h (j true (fun _ hp => by have := hp.n3; omega) (fun e => by cases e))
  · refine Ev.neg h (j _ (fun e hp => ?_) (fun e => ?_))
    · have := hp.n12; simp at e; omega
    · simp at e; omega
end Go.Proofs.Ytpplohjbifieiaa.PE
