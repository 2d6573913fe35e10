/- The chain of one side: what the program's loop computes, and what that is. -/
import Derived.Test.YtpplohjbifieiaaOb
import Derived.Test.YtpplohjbifieiaaHu
namespace Go.Proofs.Ytpplohjbifieiaa.PE
open Go.RowKit Go.Proofs.YtpplohjbifieiaaW.PrintWords Go.Proofs.YtpplohjbifieiaaW.PrintLast Go.Proofs.YtpplohjbifieiaaW.PrintMore
open Poly (Pt det sub)
open Hull

/-- the last ones are taken away that are no corners -/
def pop (c : Pt) : List S40 → List S40
  | b :: a :: r => if turnD (pt a) (pt b) c ≤ 0 then pop c (a :: r) else b :: a :: r
  | l => l
/-- the stack behind all points -/
def run : List S40 → List S40 → List S40
  | X, [] => X
  | X, c :: E => run (c :: pop (pt c) X) E

theorem rdAt {X : List S40} {i : Nat} {x : S40} (h : X[i]? = some x) : rd_T40 X (i : Int) = x := by
  simp [rd_T40, h]

theorem l1_ev (E : List S40) (n : Int) (i : Nat) (hi : i < 1000000) (c : S40) (hc : Bd 1000000 (pt c)) (R : List S40) : ∀ X : List S40, (∀ e ∈ X, Bd 1000000 (pt e)) → X.length ≤ 1000000 →
    Ev (fun k => impl_chain.l0 k (c :: pop (pt c) X).reverse E n ((i + 1 : Nat) : Int)) R → Ev (fun k => impl_chain.l1 k X.reverse E n (i : Int) c.f0 c.f1) R := by
  intro X
  induction X with
  | nil =>
    intro _ _ h
    refine Ev.step (fun k => by rw [impl_chain.l1]) (Ev.neg (by simp) (Ev.pos (by simp) ?_))
    rw [w64 (by omega) (by omega)]
    exact h
  | cons b X ih =>
    intro hX hl h
    have hl' : X.length + 1 ≤ 1000000 := hl
    cases X with
    | nil =>
      refine Ev.step (fun k => by rw [impl_chain.l1]) (Ev.neg (by simp) (Ev.pos (by simp) ?_))
      rw [w64 (by omega) (by omega)]
      exact h
    | cons a r =>
      have hlen : ((b :: a :: r).reverse.length : Int) = (r.length : Int) + 2 := by simp [List.length_reverse]
      have hl2 : r.length + 2 ≤ 1000000 := hl
      have e2 : wrap64 (((b :: a :: r).reverse.length : Int) - 2) = ((r.length : Nat) : Int) := by rw [hlen, w64 (by omega) (by omega)]; omega
      have e1 : wrap64 (((b :: a :: r).reverse.length : Int) - 1) = ((r.length + 1 : Nat) : Int) := by rw [hlen, w64 (by omega) (by omega)]; omega
      have g2 : rd_T40 (b :: a :: r).reverse ((r.length : Nat) : Int) = a := rdAt (by simp)
      have g1 : rd_T40 (b :: a :: r).reverse ((r.length + 1 : Nat) : Int) = b := rdAt (by simp)
      refine Ev.step (fun k => by rw [impl_chain.l1]) ?_
      rw [e2, e1, g2, g1]
      refine Ev.pos (by rw [hlen]; omega) (Ev.pos (by omega) (Ev.pos (by rw [hlen]; omega) (Ev.pos (by omega) (Ev.pos (by rw [hlen]; omega) ?_))))
      have ht := turn_pt (a := pt a) (b := pt b) (c := pt c) (hX a (by simp)) (hX b (by simp)) hc
      refine Ev.bind0 ht ?_
      by_cases hp : turnD (pt a) (pt b) (pt c) ≤ 0
      · refine Ev.pos hp (Ev.pos (by rw [hlen]; omega) ?_)
        have e3 : (b :: a :: r).reverse.take (((r.length + 1 : Nat) : Int)).toNat = (a :: r).reverse := by
          rw [List.reverse_cons, show (((r.length + 1 : Nat) : Int)).toNat = (a :: r).reverse.length from by simp, List.take_left']
          rfl
        rw [e3]
        refine ih (fun e he => hX e (List.mem_cons_of_mem _ he)) (by simp; omega) ?_
        rwa [pop, if_pos hp] at h
      · refine Ev.neg hp (Ev.pos (by simp; omega) ?_)
        rw [w64 (by omega) (by omega)]
        rw [pop, if_neg hp, List.reverse_cons] at h
        exact h

theorem pop_mem (c : Pt) : ∀ X : List S40, (∀ e ∈ pop c X, e ∈ X) ∧ (pop c X).length ≤ X.length := by
  intro X
  induction X with
  | nil => exact ⟨fun e h => h, Nat.le_refl _⟩
  | cons b X ih =>
    cases X with
    | nil => exact ⟨fun e h => h, Nat.le_refl _⟩
    | cons a r =>
      rw [pop]
      split
      · exact ⟨fun e h => List.mem_cons_of_mem _ (ih.1 e h), Nat.le_succ_of_le ih.2⟩
      · exact ⟨fun e h => h, Nat.le_refl _⟩
theorem run_len : ∀ (E X : List S40), (run X E).length ≤ X.length + E.length ∧ ∀ e ∈ run X E, e ∈ X ∨ e ∈ E := by
  intro E
  induction E with
  | nil => intro X; exact ⟨Nat.le_refl _, fun e h => .inl h⟩
  | cons c E ih =>
    intro X
    obtain ⟨h1, h2⟩ := ih (c :: pop (pt c) X)
    have hp := pop_mem (pt c) X
    refine ⟨?_, fun e h => ?_⟩
    · rw [run]; simp at h1 ⊢; omega
    · rw [run] at h
      rcases h2 e h with k | k
      · rcases List.mem_cons.mp k with k | k
        · exact .inr (by rw [k]; exact List.mem_cons_self)
        · exact .inl (hp.1 e k)
      · exact .inr (List.mem_cons_of_mem _ k)

theorem l0_ev (E : List S40) (hE : ∀ e ∈ E, Bd 1000000 (pt e)) (hn : E.length ≤ 100000) : ∀ d i X, i + d = E.length → (∀ e ∈ X, Bd 1000000 (pt e)) → X.length ≤ i →
    Ev (fun k => impl_chain.l0 k X.reverse E (E.length : Int) (i : Int)) (run X (E.drop i)).tail.reverse := by
  intro d
  induction d with
  | zero =>
    intro i X hi hX hl
    have : E.drop i = [] := List.drop_eq_nil_of_le (by omega)
    rw [this]
    refine Ev.step (fun k => by rw [impl_chain.l0]) (Ev.neg (by omega) ?_)
    have em : (mx (wrap64 ((X.reverse.length : Int) - 1)) 0) = ((X.length - 1 : Nat) : Int) := by
      rw [List.length_reverse, w64 (by omega) (by omega)]
      unfold mx
      split <;> omega
    rw [em]
    refine Ev.pos (by omega) (Ev.pos (by rw [List.length_reverse]; omega) ((Ev.pure _).eq ?_))
    rw [Int.toNat_natCast, run]
    cases X with
    | nil => rfl
    | cons x X =>
      rw [List.reverse_cons, List.tail_cons, show (x :: X).length - 1 = X.reverse.length from by simp]
      exact List.take_left' rfl
  | succ d ih =>
    intro i X hi hX hl
    have hlt : i < E.length := by omega
    have hd : E.drop i = E[i] :: E.drop (i + 1) := List.drop_eq_getElem_cons hlt
    have hr : rd_T40 E (i : Int) = E[i] := rdAt (List.getElem?_eq_getElem hlt)
    have hc := hE E[i] (List.getElem_mem hlt)
    refine Ev.step (fun k => by rw [impl_chain.l0]) (Ev.pos (by omega) (Ev.pos (by omega) (Ev.pos (by omega) ?_)))
    rw [hr, hd, run]
    have hp := pop_mem (pt E[i]) X
    refine l1_ev E _ i (by omega) E[i] hc _ X hX (by omega) (ih (i + 1) _ (by omega) (fun e he => ?_) (by simp; omega))
    rcases List.mem_cons.mp he with k | k
    · rw [k]; exact hc
    · exact hX e (hp.1 e k)
theorem chain_ev (E : List S40) (hE : ∀ e ∈ E, Bd 1000000 (pt e)) (hn : E.length ≤ 100000) : Ev (fun k => impl_chain.f k E) (run [] E).tail.reverse := by
  unfold impl_chain.f
  have := l0_ev E hE hn E.length 0 [] (by omega) (fun e h => by cases h) (Nat.le_refl _)
  exact this

/-! ### What the stack is -/
section
variable (f : S40 → Pt) (hf : ∀ a b c, turnD (f a) (f b) (f c) = turnD (pt a) (pt b) (pt c))
include hf
theorem pop_ok {Q : Pt → Prop} (c : S40) (hc : ∀ q, Q q → lt q (f c)) : ∀ (X : List S40) (s : S40), (∀ e ∈ s :: X, Q (f e)) → Ok Q ((s :: X).map f) → (∀ q, Q q → lt (f s) q → 0 ≤ det (sub (f c) (f s)) (sub q (f s))) →
    ∃ s' X', pop (pt c) (s :: X) = s' :: X' ∧ Q (f s') ∧ Ok Q ((s' :: X').map f) ∧ (∀ z, (X'.map f).head? = some z → 0 < turnD z (f s') (f c)) ∧ (∀ q, Q q → lt (f s') q → 0 ≤ det (sub (f c) (f s')) (sub q (f s'))) := by
  intro X
  induction X with
  | nil => intro s hm ho hl; exact ⟨s, [], rfl, hm s (by simp), ho, fun z h => by simp at h, hl⟩
  | cons a r ih =>
    intro s hm ho hl
    by_cases hp : turnD (pt a) (pt s) (pt c) ≤ 0
    · rw [pop, if_pos hp]
      rw [← hf] at hp
      exact ih a (fun e he => hm e (List.mem_cons_of_mem _ he)) ho.pop (popped (Q := Q) (c := f c) (s := f a) (s' := f s) (r := r.map f) ho (hc _ (hm a (by simp))) hp)
    · rw [pop, if_neg hp]
      refine ⟨s, a :: r, rfl, hm s (by simp), ho, fun z h => ?_, hl⟩
      simp at h
      subst h
      rw [hf]
      omega
theorem run_ok : ∀ (E : List S40) (Q : Pt → Prop) (s : S40) (X : List S40), (∀ e ∈ s :: X, Q (f e)) → Ok Q ((s :: X).map f) → (∀ q, Q q → ¬ lt (f s) q) → (∀ q, Q q → ∀ e ∈ E, lt q (f e)) → E.Pairwise (fun a b => lt (f a) (f b)) →
    ∃ s' X', run (s :: X) E = s' :: X' ∧ Ok (fun p => Q p ∨ ∃ e ∈ E, f e = p) ((s' :: X').map f) ∧ (∀ e ∈ s' :: X', Q (f e) ∨ ∃ e' ∈ E, f e' = f e) ∧ (s :: E).getLast? = some s' := by
  intro E
  induction E with
  | nil =>
    intro Q s X hm ho _ _ _
    refine ⟨s, X, rfl, ?_, fun e he => .inl (hm e he), rfl⟩
    have e : (fun p => Q p ∨ ∃ e ∈ ([] : List S40), f e = p) = Q := by funext p; simp
    rw [e]; exact ho
  | cons c E ih =>
    intro Q s X hm ho hs hq hp
    have hc : ∀ q, Q q → lt q (f c) := fun q h => hq q h c List.mem_cons_self
    obtain ⟨s1, X1, e1, m1, o1, t1, l1⟩ := pop_ok f hf c hc X s hm ho (fun q h1 h2 => absurd h2 (hs q h1))
    have hpm := (pop_mem (pt c) (s :: X)).1
    rw [e1] at hpm
    obtain ⟨hp1, hp2⟩ := List.pairwise_cons.mp hp
    have o2 : Ok (fun p => Q p ∨ p = f c) ((c :: s1 :: X1).map f) := Ok.push (fun q h => h) o1 hc m1 t1 l1
    obtain ⟨s', X', e2, o3, m3, hl⟩ := ih (fun p => Q p ∨ p = f c) c (s1 :: X1) (fun e he => by
        rcases List.mem_cons.mp he with k | k
        · exact .inr (by rw [k])
        · exact .inl (hm e (hpm e k))) o2 (fun q h => by
        rcases h with h | h
        · exact fun k => lt_asym k (hc q h)
        · rw [h]; exact lt_irr _) (fun q h e he => by
        rcases h with h | h
        · exact hq q h e (List.mem_cons_of_mem _ he)
        · rw [h]; exact hp1 e he) hp2
    refine ⟨s', X', by rw [run, e1, e2], ?_, fun e he => ?_, ?_⟩
    · have e : (fun p => (Q p ∨ p = f c) ∨ ∃ e ∈ E, f e = p) = (fun p => Q p ∨ ∃ e ∈ c :: E, f e = p) := by
        funext p
        simp only [List.mem_cons, exists_eq_or_imp, eq_iff_iff]
        constructor
        · rintro ((h | h) | h)
          · exact .inl h
          · exact .inr (.inl h.symm)
          · exact .inr (.inr h)
        · rintro (h | h | h)
          · exact .inl (.inl h)
          · exact .inl (.inr h.symm)
          · exact .inr h
      rw [← e]; exact o3
    · rcases m3 e he with (h | h) | ⟨e', h1, h2⟩
      · exact .inl h
      · exact .inr ⟨c, List.mem_cons_self, h.symm⟩
      · exact .inr ⟨e', List.mem_cons_of_mem _ h1, h2⟩
    · rw [List.getLast?_cons_cons]; exact hl
/-- the stack of a sorted list -/
theorem run_all (E : List S40) (h0 : E ≠ []) (hp : E.Pairwise (fun a b => lt (f a) (f b))) :
    ∃ s' X', run [] E = s' :: X' ∧ Ok (fun p => ∃ e ∈ E, f e = p) ((s' :: X').map f) ∧ (∀ e ∈ s' :: X', ∃ e' ∈ E, f e' = f e) ∧ E.getLast? = some s' := by
  cases E with
  | nil => exact absurd rfl h0
  | cons c E =>
    obtain ⟨hp1, hp2⟩ := List.pairwise_cons.mp hp
    obtain ⟨s', X', e, o, m, hl⟩ := run_ok f hf E (fun p => p = f c) c [] (fun e he => by simp at he; rw [he]) (fun q h => by rw [h]; exact lt_irr _) (fun q h => by rw [h]; exact lt_irr _) (fun q h e he => by rw [h]; exact hp1 e he) hp2
    have ee : (fun p => p = f c ∨ ∃ e ∈ E, f e = p) = (fun p => ∃ e ∈ c :: E, f e = p) := by
      funext p
      simp only [List.mem_cons, exists_eq_or_imp, eq_iff_iff]
      exact ⟨fun h => h.imp Eq.symm id, fun h => h.imp Eq.symm id⟩
    refine ⟨s', X', by rw [run]; exact e, by rw [← ee]; exact o, fun e he => ?_, hl⟩
    rcases m e he with h | ⟨e', h1, h2⟩
    · exact ⟨c, List.mem_cons_self, h.symm⟩
    · exact ⟨e', List.mem_cons_of_mem _ h1, h2⟩
end
end Go.Proofs.Ytpplohjbifieiaa.PE
