/- Rows of points in the call's own memory, as the shelf's contracts tell them. -/
import Derived.Test.YtpplohjbifieiaaEx0
import Derived.Shelf.GgSortFunc.InsertionK
import Derived.Lib.Hide
namespace Go.Proofs.Ytpplohjbifieiaa.PE
open Go.RowKit Go.Proofs.YtpplohjbifieiaaW.PrintWords Go.Proofs.YtpplohjbifieiaaW.PrintLast Go.Proofs.YtpplohjbifieiaaW.PrintMore
open Go.Sort

instance : Inhabited S40 := ⟨z40⟩
/-- the cells of a point -/
def pe (x : S40) : List Value := [.int .i64 x.f0, .int .i64 x.f1]
/-- the cells of points -/
def pcl (l : List S40) : List Value := l.flatMap pe
theorem pe_len (x : S40) : (pe x).length = 2 := rfl
theorem pe_one (x : S40) : ∀ v ∈ pe x, v.oneCell' = true := by
  intro v hv
  simp only [pe, List.mem_cons, List.not_mem_nil, or_false] at hv
  rcases hv with rfl | rfl <;> rfl
theorem pcl_cons (x : S40) (l : List S40) : pcl (x :: l) = pe x ++ pcl l := rfl
theorem pcl_length (l : List S40) : (pcl l).length = l.length * 2 := by
  induction l with
  | nil => rfl
  | cons x l ih => rw [pcl_cons, List.length_append, ih, pe_len, List.length_cons]; omega
theorem pcl_drop (l : List S40) : ∀ j, (pcl l).drop (j * 2) = pcl (l.drop j) := by
  induction l with
  | nil => intro j; simp [pcl]
  | cons x l ih =>
    intro j
    cases j with
    | zero => simp
    | succ j =>
      rw [pcl_cons, List.drop_succ_cons, ← ih j, show (j + 1) * 2 = 2 + j * 2 from by omega, ← List.drop_drop]
      rfl
theorem pcl_get (l : List S40) : ∀ t, t < l.length * 2 → (pcl l)[t]? = (pe l[t / 2]!)[t % 2]? := by
  induction l with
  | nil => intro t h; simp at h
  | cons x l ih =>
    intro t h
    match t with
    | 0 => rfl
    | 1 => rfl
    | t + 2 =>
      have h' : t < l.length * 2 := by simp at h; omega
      have e1 : (t + 2) / 2 = t / 2 + 1 := by omega
      have e2 : (t + 2) % 2 = t % 2 := by omega
      rw [e1, e2, pcl_cons, List.getElem?_append_right (by rw [pe_len]; omega), pe_len, show t + 2 - 2 = t from by omega, ih t h']
      rw [List.getElem!_cons_succ]
theorem reps_is {w : World} {base : Nat} {ok : Nat → Prop} : ∀ (l : List S40) (inner : List Value), Reps (k40.M w base ok) 2 l inner → inner = pcl l
  | [], inner, h => by
    have := h.1
    simp at this
    subst this; rfl
  | x :: l, inner, h => by
    obtain ⟨hl, hr⟩ := h
    have h0 := hr 0 x rfl
    rw [Nat.zero_mul, List.drop_zero] at h0
    have h1 := k40_openM h0
    have ih := reps_is l (inner.drop 2) ⟨by simp at hl ⊢; omega, fun j p hp => by
      have := hr (j + 1) p (by simpa using hp)
      rw [List.drop_drop]
      rwa [show 2 + j * 2 = (j + 1) * 2 from by omega]⟩
    rw [pcl_cons, ← ih, ← List.take_append_drop 2 inner, h1]
    rfl
theorem reps_mk (w : World) (base : Nat) (ok : Nat → Prop) (l : List S40) : Reps (k40.M w base ok) 2 l (pcl l) := by
  refine ⟨pcl_length l, fun j p hp => ?_⟩
  obtain ⟨hj, rfl⟩ := List.getElem?_eq_some_iff.mp hp
  rw [pcl_drop, List.drop_eq_getElem_cons hj, pcl_cons]
  exact k40_mkM _ _ _ _

/-- A row of points of the call's own, by its cells. -/
theorem R_open {w : World} {base : Nat} {ok : Nat → Prop} {v : Value} {l : List S40} (h : Kd.R k40 40 w base ok v l) : (∀ k, v.ownBlock = some k → ok k) ∧ w.ownsRow base 40 2 v l.length (pcl l) := by
  obtain ⟨h0, inner, ho, hr⟩ := h
  have e := reps_is l inner hr
  subst e
  exact ⟨h0, ho⟩
theorem R_shut {w : World} {base : Nat} {ok : Nat → Prop} {v : Value} {l : List S40} (h0 : ∀ k, v.ownBlock = some k → ok k) (h : w.ownsRow base 40 2 v l.length (pcl l)) : Kd.R k40 40 w base ok v l :=
  ⟨h0, pcl l, h, reps_mk _ _ _ l⟩

theorem flat_is (l : List S40) : flatK pe 2 l.toArray = (pcl l).toArray := by
  apply Array.ext
  · simp [pcl_length]
  · intro t h1 h2
    have ht' : t < l.length * 2 := by simpa using h1
    have hm : t % 2 < 2 := Nat.mod_lt _ (by omega)
    have e1 := get_flatK pe 2 l.toArray t (by simpa using ht')
    rw [getElem!_pos (flatK pe 2 l.toArray) t h1] at e1
    have e2 := pcl_get l t ht'
    have e3 : (pcl l)[t]? = some (pcl l).toArray[t] := by rw [List.getElem_toArray]; exact List.getElem?_eq_getElem _
    rw [e3, List.getElem?_eq_getElem (show t % 2 < (pe l[t / 2]!).length from hm)] at e2
    injection e2 with e2
    rw [e1, List.getElem!_toArray, getElem!_pos (pe l[t / 2]!) (t % 2) hm]
    exact e2.symm

theorem own_holds {w : World} {base g n c : Nat} {l : List S40} (h : w.ownsRow base 40 2 (.slice (some ⟨g, 0, none⟩) n c) l.length (pcl l)) :
    HoldsK pe 2 w g 0 l.toArray ∧ g < w.heap.size ∧ n = l.length ∧ base ≤ g ∧ n ≤ c := by
  obtain ⟨_, h⟩ := h
  rcases h with ⟨h, _⟩ | ⟨g', cap, cur, hv, hb, hh, hn, _, hs, ht⟩
  · cases h
  · injection hv with h1 h2 h3
    injection h1 with h1
    injection h1 with h1
    subst h1 h2 h3
    have hlt : g < w.heap.size := by
      obtain ⟨h, _⟩ := Array.getElem?_eq_some_iff.mp hh
      exact h
    refine ⟨fun j hj => ?_, hlt, rfl, hb, hn⟩
    rw [flat_is] at hj ⊢
    have hj' : j < l.length * 2 := by simpa [pcl_length] using hj
    have hc : cur[j]? = (pcl l)[j]? := by rw [← ht, List.getElem?_take, if_pos hj', Array.getElem?_toList]
    constructor
    · simp only [World.cell?, hh, Nat.zero_add, hc]
      rw [List.getElem?_eq_getElem (by rw [pcl_length]; exact hj'), List.getElem!_toArray, getElem!_pos (pcl l) j (by rw [pcl_length]; exact hj')]
      rfl
    · simp [World.frozen?, hh]

theorem put_block (w : World) (g : Nat) (F : Array Value) (cur : Array Value) (e : TypeId) (hh : w.heap[g]? = some (.cells cur e (0, 0))) :
    (putRow id w g 0 F).heap[g]? = some (.cells (putCells id 0 F cur) e (0, 0)) := by
  show (w.heap.modify g _)[g]? = _
  rw [Array.getElem?_modify, if_pos rfl, hh]
  rfl
theorem put_other (w : World) (g k : Nat) (F : Array Value) (hk : k ≠ g) : (putRow id w g 0 F).heap[k]? = w.heap[k]? := by
  show (w.heap.modify g _)[k]? = _
  rw [Array.getElem?_modify, if_neg (by omega)]

/-- What is in the row behind a call that has written cells of it, and drawn, and made blocks. -/
theorem row_done2 {w0 w W : World} {P0 : Nat → Prop} {g n c q : Nat} {os : Array Obj} {l0 l1 : List S40} {F : Array Value} (hB : Below w0.heap.size w0 w)
    (ho0 : Kd.R k40 40 w w0.heap.size P0 (.slice (some ⟨g, 0, none⟩) n c) l0) (hl : l1.length ≤ l0.length) (hFs : l1.length * 2 ≤ F.size) (hF : ∀ t, t < l1.length * 2 → F[t]! = (pcl l1)[t]!) (hW : W = grow (putRow id (Sort.ahead w q) g 0 F) os) :
    Kd.R k40 40 W w0.heap.size (fun k_ => (P0 k_ ∨ w.heap.size ≤ k_)) (.slice (some ⟨g, 0, none⟩) l1.length c) l1 ∧ Below w0.heap.size w0 W ∧ Kept w W (fun k_ => P0 k_) := by
  obtain ⟨h0, ho⟩ := R_open ho0
  have hg := h0 g rfl
  obtain ⟨hlen, ho⟩ := ho
  rcases ho with ⟨h, _⟩ | ⟨g', cap, cur, hv, hb, hh, hn, hm, hs, ht⟩
  · cases h
  injection hv with h1 h2 h3
  injection h1 with h1
  injection h1 with h1
  subst h1 h2 h3
  have hlt : g < w.heap.size := by
    obtain ⟨h, _⟩ := Array.getElem?_eq_some_iff.mp hh
    exact h
  have hsz : w.heap.size ≤ W.heap.size := by
    rw [hW, size_grow, size_putRow]
    exact Nat.le_add_right _ _
  have hold : ∀ k, k < w.heap.size → W.heap[k]? = (putRow id (Sort.ahead w q) g 0 F).heap[k]? := fun k hk => by
    rw [hW]
    exact heap_grow_old _ _ (by rw [size_putRow]; exact hk)
  have hoth : ∀ k, k < w.heap.size → k ≠ g → W.heap[k]? = w.heap[k]? := fun k hk hne => (hold k hk).trans (put_other _ _ _ _ hne)
  refine ⟨R_shut (fun k hk => ?_) ⟨by rw [pcl_length], .inr ⟨g, c, putCells id 0 F cur, rfl, hb, (hold g hlt).trans (put_block _ _ _ cur _ hh), by omega, hm, by simp [putCells, hs], ?_⟩⟩, ⟨?_, ?_, ?_, Nat.le_trans hB.size hsz, fun k hk => ?_⟩, hsz, fun k hk hn => ?_⟩
  · have : g = k := by simpa [Value.ownBlock] using hk
    subst this
    exact .inl hg
  · apply List.ext_getElem?
    intro t
    by_cases htl : t < l1.length * 2
    · have hc : t < cur.size := by rw [hs]; omega
      have hp : t < (pcl l1).length := by rw [pcl_length]; exact htl
      rw [List.getElem?_take, if_pos htl, Array.getElem?_toList]
      unfold putCells
      rw [Array.getElem?_mapIdx, Array.getElem?_eq_getElem hc, Option.map_some, if_pos ⟨Nat.zero_le _, by omega⟩]
      rw [Nat.sub_zero, hF t htl, getElem!_pos (pcl l1) t hp, List.getElem?_eq_getElem hp]
      rfl
    · rw [List.getElem?_take, if_neg htl, List.getElem?_eq_none (by rw [pcl_length]; omega)]
  · rw [hW]; exact hB.os
  · rw [hW]; exact hB.tape
  · rw [hW]; exact hB.output
  · exact (hoth k (Nat.lt_of_lt_of_le hk hB.size) (by omega)).trans (hB.block k hk)
  · exact hoth k hk (fun e => hn (e ▸ hg))

theorem row_done {w0 w W : World} {P0 : Nat → Prop} {g n c q : Nat} {os : Array Obj} {l0 l1 : List S40} (hB : Below w0.heap.size w0 w)
    (ho0 : Kd.R k40 40 w w0.heap.size P0 (.slice (some ⟨g, 0, none⟩) n c) l0) (hl : l1.length = l0.length) (hW : W = grow (putRowK pe 2 (Sort.ahead w q) g 0 l1.toArray) os) :
    Kd.R k40 40 W w0.heap.size (fun k_ => (P0 k_ ∨ w.heap.size ≤ k_)) (.slice (some ⟨g, 0, none⟩) n c) l1 ∧ Below w0.heap.size w0 W ∧ Kept w W (fun k_ => P0 k_) := by
  have hn : n = l1.length := by rw [hl]; exact (Kd.R_reads' ho0).1
  rw [hn]
  rw [hn] at ho0
  refine row_done2 (F := (pcl l1).toArray) hB ho0 (by omega) (by simp [pcl_length]) (fun t ht => by rw [List.getElem!_toArray]) (q := q) (os := os) ?_
  rw [hW]
  unfold putRowK
  rw [flat_is]
end Go.Proofs.Ytpplohjbifieiaa.PE
