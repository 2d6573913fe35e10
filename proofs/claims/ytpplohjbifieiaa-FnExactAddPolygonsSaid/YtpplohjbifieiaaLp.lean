/- The laws' own words on lists of points. -/
import Derived.Test.YtpplohjbifieiaaEx
import Derived.Test.YtpplohjbifieiaaEv
namespace Go.Proofs.Ytpplohjbifieiaa.PE
open Go.RowKit Go.Proofs.YtpplohjbifieiaaW.PrintWords Go.Proofs.YtpplohjbifieiaaW.PrintLast Go.Proofs.YtpplohjbifieiaaW.PrintMore

def cvP (p : S35) : S40 := ⟨p.f0, p.f1⟩
def cvL (l : List S35) : List S40 := l.map cvP
theorem cvL_len (l : List S35) : (cvL l).length = l.length := by simp [cvL]
theorem wn1 (i : Nat) (h : i < 1000000000000) : wrap64 ((i : Int) + 1) = ((i + 1 : Nat) : Int) := by rw [w64 (by omega) (by omega)]; simp

theorem toPoint_ev (a b : Int) : Ev (fun k => laws_toPoint.f k a b) (a, b) := by
  unfold laws_toPoint.f
  refine Ev.step (fun k => by rw [laws_toPoint.l0]) (Ev.pos (by omega) (Ev.pos rfl ?_))
  refine Ev.step (fun k => by rw [laws_toPoint.l0]) (Ev.pos (by omega) (Ev.neg (by omega) (Ev.pos rfl ?_)))
  exact Ev.step (fun k => by rw [laws_toPoint.l0]) (Ev.neg (by omega) (Ev.pure _))
theorem rd_at {l : List S40} {i : Nat} (h : i < l.length) : rd_T40 l (i : Int) = l[i] := by simp [rd_T40, h]
theorem rd_at0 {l : List S35} {i : Nat} (h : i < l.length) : rd_T35 l (i : Int) = l[i] := by simp [rd_T35, h]

theorem toPointS_loop (l : List S35) (hmax : l.length < 1000000000000) : ∀ d i (y : List S40), i + d = l.length → y.length = l.length → (∀ j, j < i → y[j]? = (cvL l)[j]?) →
    Ev (fun k => laws_toPointS.l0 k l y (i : Int)) (cvL l) := by
  intro d
  induction d with
  | zero =>
    intro i y hi hy hj
    refine Ev.step (fun k => by rw [laws_toPointS.l0]) (Ev.neg (by omega) ((Ev.pure _).eq ?_))
    refine List.ext_getElem? (fun j => ?_)
    rcases Nat.lt_or_ge j i with h | h
    · exact hj j h
    · rw [List.getElem?_eq_none (by omega), List.getElem?_eq_none (by rw [cvL_len]; omega)]
  | succ d ih =>
    intro i y hi hy hj
    have hlt : i < l.length := by omega
    refine Ev.step (fun k => by rw [laws_toPointS.l0]) (Ev.pos (by omega) (Ev.pos (by omega) (Ev.bind (toPoint_ev _ _) ?_)))
    refine Ev.pos (by omega) ?_
    rw [wn1 i (by omega), Int.toNat_natCast]
    refine ih (i + 1) _ (by omega) (by simpa using hy) (fun j hji => ?_)
    rw [List.getElem?_set]
    by_cases e : i = j
    · subst e; simp [cvL, cvP, rd_at0 hlt, hlt, hy]
    · rw [if_neg e]; exact hj j (by omega)
theorem toPointS_ev (l : List S35) (hmax : l.length < 1000000000) : Ev (fun k => laws_toPointS.f k l) (cvL l) := by
  unfold laws_toPointS.f
  refine Ev.pos (by omega) (Ev.pos (by omega) ?_)
  exact toPointS_loop l (by omega) l.length 0 _ (by omega) (by simp) (fun j hj => by omega)

theorem eqPoint_ev (a b : Int) : Ev (fun k => laws_eqPoint.f k a b a b) true := by
  unfold laws_eqPoint.f
  refine Ev.step (fun k => by rw [laws_eqPoint.l0]) (Ev.pos (by omega) (Ev.pos rfl (Ev.pos rfl ?_)))
  refine Ev.step (fun k => by rw [laws_eqPoint.l0]) (Ev.pos (by omega) (Ev.neg (by omega) (Ev.pos rfl (Ev.pos rfl ?_))))
  exact Ev.step (fun k => by rw [laws_eqPoint.l0]) (Ev.neg (by omega) (Ev.pure _))
theorem eqPointS_ev (l : List S40) (hmax : l.length < 1000000000) : Ev (fun k => laws_eqPointS.f k l l) true := by
  unfold laws_eqPointS.f
  refine Ev.pos rfl ?_
  suffices h : ∀ d i, i + d = l.length → Ev (fun k => laws_eqPointS.l0 k l l (i : Int)) true from h l.length 0 (by omega)
  intro d
  induction d with
  | zero => exact fun i hi => Ev.step (fun k => by rw [laws_eqPointS.l0]) (Ev.neg (by omega) (Ev.pure _))
  | succ d ih =>
    intro i hi
    refine Ev.step (fun k => by rw [laws_eqPointS.l0]) (Ev.pos (by omega) (Ev.pos (by omega) (Ev.pos (by omega) (Ev.bind (eqPoint_ev _ _) (Ev.pos rfl ?_)))))
    rw [wn1 i (by omega)]
    exact ih (i + 1) (by omega)

def marked (n : Nat) : List S40 := (List.range n).map fun j : Nat => ⟨1 + 2 * (j : Int), 1 + 2 * (j : Int) + 1⟩
theorem marked_len (n : Nat) : (marked n).length = n := by simp [marked]
theorem mark_loop (n : Nat) (hmax : n < 1000000000) : ∀ d i (y : List S40), i + d = n → y.length = n → (∀ j, j < i → y[j]? = (marked n)[j]?) →
    Ev (fun k => laws_markPointS.l0 k y (1 + 2 * (i : Int)) (i : Int)) (1 + 2 * (n : Int), marked n) := by
  intro d
  induction d with
  | zero =>
    intro i y hi hy hj
    obtain rfl : i = n := by omega
    have e : y = marked i := by
      refine List.ext_getElem? (fun j => ?_)
      rcases Nat.lt_or_ge j i with h | h
      · exact hj j h
      · rw [List.getElem?_eq_none (by omega), List.getElem?_eq_none (by rw [marked_len]; omega)]
    exact Ev.step (fun k => by rw [laws_markPointS.l0]) (Ev.neg (by omega) ((Ev.pure _).eq (by rw [e])))
  | succ d ih =>
    intro i y hi hy hj
    have hlt : i < y.length := by omega
    refine Ev.step (fun k => by rw [laws_markPointS.l0]) (Ev.pos (by omega) ?_)
    refine Ev.step (fun k => by rw [laws_markPointS.l1]) (Ev.pos (by omega) (Ev.pos (by omega) (Ev.pos (by omega) (Ev.pos rfl ?_))))
    rw [Int.toNat_natCast, w64 (x := 1 + 2 * (i : Int) + 1) (by omega) (by omega)]
    refine Ev.step (fun k => by rw [laws_markPointS.l1]) (Ev.pos (by omega) (Ev.pos (by omega) (Ev.pos (by simp; omega) (Ev.neg (by omega) (Ev.pos rfl ?_)))))
    rw [Int.toNat_natCast, w64 (x := 1 + 2 * (i : Int) + 1 + 1) (by omega) (by omega)]
    refine Ev.step (fun k => by rw [laws_markPointS.l1]) (Ev.neg (by omega) ?_)
    rw [wn1 i (by omega), show 1 + 2 * (i : Int) + 1 + 1 = 1 + 2 * ((i + 1 : Nat) : Int) by omega]
    refine ih (i + 1) _ (by omega) (by simpa using hy) (fun j hji => ?_)
    rw [List.getElem?_set]
    by_cases e : i = j
    · subst e
      rw [if_pos rfl, if_pos (by simpa using hlt), rd_at (by simpa using hlt)]
      simp [marked, show i < n by omega]
    · rw [if_neg e, List.getElem?_set, if_neg e]
      exact hj j (by omega)
theorem mark_ev (l : List S40) (hmax : l.length < 1000000000) : Ev (fun k => laws_markPointS.f k l 1) (1 + 2 * (l.length : Int), marked l.length) := by
  unfold laws_markPointS.f
  exact mark_loop l.length hmax l.length 0 l (by omega) rfl (fun j hj => by omega)
theorem held_ev (n : Nat) (hmax : n < 1000000000) : Ev (fun k => laws_heldPointS.f k (marked n) 1) (1 + 2 * (n : Int)) := by
  unfold laws_heldPointS.f
  have hl := marked_len n
  suffices h : ∀ d i, i + d = n → Ev (fun k => laws_heldPointS.l0 k (marked n) (1 + 2 * (i : Int)) (i : Int)) (1 + 2 * (n : Int)) from h n 0 (by omega)
  intro d
  induction d with
  | zero =>
    intro i hi
    obtain rfl : i = n := by omega
    exact Ev.step (fun k => by rw [laws_heldPointS.l0]) (Ev.neg (by omega) (Ev.pure _))
  | succ d ih =>
    intro i hi
    have hlt : i < (marked n).length := by omega
    have e : (marked n)[i] = ⟨1 + 2 * (i : Int), 1 + 2 * (i : Int) + 1⟩ := by simp [marked]
    refine Ev.step (fun k => by rw [laws_heldPointS.l0]) (Ev.pos (by omega) ?_)
    refine Ev.step (fun k => by rw [laws_heldPointS.l1]) (Ev.pos (by omega) (Ev.pos (by omega) (Ev.pos (by omega) (Ev.pos rfl (Ev.pos ?_ ?_)))))
    · rw [rd_at hlt, e]
    rw [w64 (x := 1 + 2 * (i : Int) + 1) (by omega) (by omega)]
    refine Ev.step (fun k => by rw [laws_heldPointS.l1]) (Ev.pos (by omega) (Ev.pos (by omega) (Ev.pos (by omega) (Ev.neg (by omega) (Ev.pos rfl (Ev.pos ?_ ?_))))))
    · rw [rd_at hlt, e]
    rw [w64 (x := 1 + 2 * (i : Int) + 1 + 1) (by omega) (by omega)]
    refine Ev.step (fun k => by rw [laws_heldPointS.l1]) (Ev.neg (by omega) ?_)
    rw [wn1 i (by omega), show 1 + 2 * (i : Int) + 1 + 1 = 1 + 2 * ((i + 1 : Nat) : Int) by omega]
    exact ih (i + 1) (by omega)
theorem size_eq (l : List S35) (a : Int) (h0 : 0 ≤ a) (ha : a ≤ 1048576) (hl : l.length ≤ 17592186044416) : laws_szPointS.f l a = some (if a < l.length then -1 else a - l.length) := by
  unfold laws_szPointS.f
  rw [w64 (by omega) (by omega)]
  by_cases h : a < (l.length : Int)
  · rw [if_pos (by omega), if_pos h]
  · rw [if_neg (by omega), if_neg h]
end Go.Proofs.Ytpplohjbifieiaa.PE
