/- A map whose keys are forms, each of them with the value true: a look-up, a store. -/
import Derived.Test.YtcphdmhcpjfedaaEq
import Derived.ChangeMaps4
namespace Go.Proofs.Ytcphdmhcpjfedaa
open Go.RowKit

def ents : Nat → List Fm → List MapEntry
  | _, [] => []
  | i, x :: S => ⟨x.val, .bool true, i⟩ :: ents (i + 1) S

theorem ents_append : ∀ (S T : List Fm) (i : Nat), ents i (S ++ T) = ents i S ++ ents (i + S.length) T
  | [], T, i => by simp [ents]
  | x :: S, T, i => by simp [ents, ents_append S T (i + 1), Nat.add_assoc, Nat.add_comm 1]

theorem ents_length : ∀ (S : List Fm) (i : Nat), (ents i S).length = S.length
  | [], i => rfl
  | x :: S, i => by simp [ents, ents_length S (i + 1)]

theorem ents_get : ∀ (S : List Fm) (i k : Nat) (h : k < S.length), (ents i S)[k]? = some ⟨S[k].val, .bool true, i + k⟩
  | [], i, k, h => by simp at h
  | x :: S, i, 0, h => rfl
  | x :: S, i, k + 1, h => by
    have := ents_get S (i + 1) k (by simpa using h)
    simpa [ents, Nat.add_assoc, Nat.add_comm 1] using this

def findF (x : Fm) : List Fm → Nat → Option (Nat × Value)
  | [], _ => none
  | y :: S, j => if x = y then some (j, .bool true) else findF x S (j + 1)

theorem findF_none {x : Fm} : ∀ {S : List Fm} {j : Nat}, x ∉ S → findF x S j = none
  | [], j, _ => rfl
  | y :: S, j, h => by
    simp only [List.mem_cons, not_or] at h
    rw [findF, if_neg h.1]; exact findF_none h.2
theorem findF_some {x : Fm} : ∀ {S : List Fm} {j : Nat}, x ∈ S → ∃ k, ∃ h : k < S.length, S[k] = x ∧ findF x S j = some (j + k, .bool true)
  | [], j, h => by simp at h
  | y :: S, j, h => by
    by_cases e : x = y
    · exact ⟨0, by simp, e.symm, by rw [findF, if_pos e]; rfl⟩
    · have hm : x ∈ S := by simpa [e] using h
      obtain ⟨k, hk, h1, h2⟩ := findF_some (j := j + 1) hm
      exact ⟨k + 1, by simpa using hk, h1, by rw [findF, if_neg e, h2]; congr 2; omega⟩

theorem run_findAsking (x : Fm) (w : World) : ∀ (S : List Fm) (i j : Nat),
    (Instr.findAsking 39 x.val (ents i S) j).run Try.prog w = .ok (findF x S j) w
  | [], i, j => by simp [ents, Instr.findAsking, findF]
  | y :: S, i, j => by
    have h := form_same x.a x.b x.c y.a y.b y.c w
    have h2 : (Op.equal 39 x.val y.val).run Try.prog w = .ok (eqF x.a x.b x.c y.a y.b y.c) w := h
    unfold ents Instr.findAsking findF
    simp only [Sem.run_bind, h2, Result.andThen_ok]
    by_cases e : x = y
    · subst e
      have : eqF x.a x.b x.c x.a x.b x.c = true := eqF_true.2 rfl
      simp [this]
    · have : eqF x.a x.b x.c y.a y.b y.c = false := eqF_false.2 e
      simp [this, e, run_findAsking x w S (i + 1) (j + 1)]

theorem run_findKey (x : Fm) (w : World) (S : List Fm) : (Instr.findKey 39 x.val (ents 0 S)).run Try.prog w = .ok (findF x S 0) w := by
  unfold Instr.findKey
  simp only [Sem.run_bind, run_underlying Try.underlying39, Result.andThen_ok]
  cases S with
  | nil => simp [ents, Instr.findNow, findF]
  | cons y S =>
    have : Instr.findNow (.struct (Try.prog.fieldsOf 39)) x.val (ents 0 (y :: S)) 0 = none := by simp [ents, Instr.findNow, Instr.sameNow]
    have hr := run_findAsking x w (y :: S) 0 0
    simp [ents, Instr.findNow, Instr.sameNow] at hr ⊢
    exact hr

theorem run_checkKey_form (x : Fm) (w : World) (b : Bool) : (Instr.checkKey b 10000 39 x.val).run Try.prog w = .ok () w := by
  have h1 := run_underlying (P := Try.prog) (w := w) Try.underlying2
  have hi : ∀ (n : Nat) (v : Int), (Instr.checkKey b (n + 1) 2 (.int .i64 v)).run Try.prog w = .ok () w := by
    intro n v
    unfold Instr.checkKey
    simp [h1]
  unfold Instr.checkKey Fm.val
  simp only [Sem.run_bind, run_underlying Try.underlying39, Result.andThen_ok]
  simp [hi, go_sem]

/-- block m is a map that holds the forms of S, in this order -/
def Mb (w : World) (m : Nat) (S : List Fm) : Prop := w.heap[m]? = some (.map (ents 0 S).toArray S.length)

theorem Mb.new (w : World) : Mb (w.alloc (.map #[] 0)) w.heap.size [] := heap_alloc_new w _
theorem Mb.lt {w : World} {m : Nat} {S : List Fm} (h : Mb w m S) : m < w.heap.size := by
  rcases Nat.lt_or_ge m w.heap.size with hlt | hge
  · exact hlt
  · unfold Mb at h; rw [Array.getElem?_eq_none hge] at h; cases h
theorem Mb.below {w w' : World} {m : Nat} {S : List Fm} (h : Mb w m S) (hb : Below w.heap.size w w') : Mb w' m S := (hb.block m h.lt).trans h
theorem Mb.alloc {w : World} {m : Nat} {S : List Fm} (h : Mb w m S) (o : Obj) : Mb (w.alloc o) m S := (Below.heap_alloc w o m h.lt).trans h

theorem run_lookup_form (x : Fm) (w : World) (m : Nat) (S : List Fm) (h : Mb w m S) :
    (Instr.lookup 109 (.map (some m)) x.val false).run Try.prog w = .ok (.bool (decide (x ∈ S))) w := by
  have hz : (zeroValue 4).run Try.prog w = .ok (.bool false) w := by kernel_rfl
  have hk := run_findKey x w S
  have hc := run_checkKey_form x w
  by_cases hm : x ∈ S
  · obtain ⟨k, hk1, hk2, hk3⟩ := findF_some (j := 0) hm
    rw [hk3] at hk
    simp [Instr.lookup, run_underlying Try.underlying109, MapKept.run_getObj_map h, hc, hk, hm]
  · rw [findF_none hm] at hk
    simp [Instr.lookup, run_underlying Try.underlying109, MapKept.run_getObj_map h, hc, hk, hm, hz]

theorem run_update_form (x : Fm) (w : World) (m : Nat) (S : List Fm) (h : Mb w m S) :
    (Instr.mapUpdate 109 (.map (some m)) x.val (.bool true)).run Try.prog w = .ok () { w with heap := w.heap.setIfInBounds m (.map (ents 0 (ins S x)).toArray (ins S x).length) } := by
  have hk := run_findKey x w S
  have hc := run_checkKey_form x w
  by_cases hm : x ∈ S
  · obtain ⟨k, hk1, hk2, hk3⟩ := findF_some (j := 0) hm
    rw [hk3] at hk
    have hg := ents_get S 0 k hk1
    have hstay : (Instr.keyThatStays x.val x.val).run Try.prog w = .ok x.val w := by
      have : Instr.sameBits 10000 x.val x.val = true := by simp [Instr.sameBits, Fm.val]
      simp [Instr.keyThatStays, this]
    have hins : ins S x = S := by unfold ins; rw [if_pos hm]
    have hmod : (ents 0 S).modify k (fun e => { e with key := x.val, val := .bool true }) = ents 0 S := by
      apply List.ext_getElem?
      intro i
      rw [List.getElem?_modify]
      by_cases e : k = i
      · subst e
        simp [hg, hk2]
      · simp [e]
    simp only [Nat.zero_add] at hk hg
    simp [Instr.mapUpdate, run_underlying Try.underlying109, MapKept.run_getObj_map h, hc, hk, hg, hk2, hstay, hmod, hins, MapKept.run_setObj_map _ h]
  · rw [findF_none hm] at hk
    have hins : ins S x = S ++ [x] := by unfold ins; rw [if_neg hm]
    have he : ents 0 (S ++ [x]) = ents 0 S ++ [⟨x.val, .bool true, S.length⟩] := by rw [ents_append]; simp [ents]
    simp [Instr.mapUpdate, run_underlying Try.underlying109, MapKept.run_getObj_map h, hc, hk, hins, he, MapKept.run_setObj_map _ h]

/-- the store, for the walk -/
theorem update_form {ops : Array Oper} {rest : List Oper} {o : Oper} {a : Act} {Q : Exit → Act → World → Prop} {w : World} (hg : o.guard = none) (m x v : Operand) (hop : o.op = Op.mapUpdate 109 m x v)
    (b : Nat) (S : List Fm) (hm : a.eval m = .map (some b)) (hb : Mb w b S) (p q r : Int) (hx : a.eval x = .agg #[.int .i64 p, .int .i64 q, .int .i64 r]) (hv : a.eval v = .bool true)
    (hK : ∀ w', Mb w' b (ins S ⟨p, q, r⟩) → w.grownBy w' (some b) → wpList Try.prog ops Q rest (a.put o.dst undef) w') :
    wpList Try.prog ops Q (o :: rest) a w := by
  refine wpList_plain hg fun K' hK' => ?_
  have hrun := run_update_form ⟨p, q, r⟩ w b S hb
  unfold Fm.val at hrun
  unfold Oper.wp
  simp [execOp, hop, hm, hx, hv, hrun, Result.andThen]
  refine hK' _ _ (hK _ ?_ ?_)
  · unfold Mb
    simp [hb.lt]
  · refine ⟨rfl, rfl, rfl, by simp, fun k hk hne => ?_⟩
    have : b ≠ k := fun e => hne (by rw [e])
    simp [this]

end Go.Proofs.Ytcphdmhcpjfedaa
