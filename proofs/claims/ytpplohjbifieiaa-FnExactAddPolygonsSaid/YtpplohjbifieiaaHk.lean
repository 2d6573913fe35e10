/- slices.Compact of points. -/
import Derived.Test.YtpplohjbifieiaaHb
import Derived.Test.YtpplohjbifieiaaEx1
import Derived.Lib.SlicesCompact
import Derived.Lib.SliceRun
namespace Go.Proofs.Ytpplohjbifieiaa.PE
open Go.RowKit Go.Proofs.YtpplohjbifieiaaW.PrintWords Go.Proofs.YtpplohjbifieiaaW.PrintLast Go.Proofs.YtpplohjbifieiaaW.PrintMore
open Go.Sort Go.Lib
attribute [local go_sem high] eqA40
set_option linter.unusedVariables false
set_option linter.unusedSimpArgs false

instance : DecidableEq S40 := fun a b => decidable_of_iff (a.f0 = b.f0 ∧ a.f1 = b.f1) (by cases a; cases b; simp)

theorem pt_eq {x y : S40} (h : x = y) : (x.f0 == y.f0 && x.f1 == y.f1) = true := by subst h; simp
theorem pt_ne {x y : S40} (h : x ≠ y) : (x.f0 == y.f0 && x.f1 == y.f1) = false := by
  rw [Bool.eq_false_iff]
  intro e
  simp only [Bool.and_eq_true, beq_iff_eq] at e
  exact h (by cases x; cases y; simp_all)

theorem cellP {W : World} {g i : Nat} {d : Array S40} (h : HoldsK pe 2 W g 0 d) (hi : i < d.size) :
    (W.cell? ⟨g, i * 2, none⟩ = some (.int .i64 (d[i]!).f0) ∧ W.cell? ⟨g, i * 2 + 1, none⟩ = some (.int .i64 (d[i]!).f1)) ∧ W.frozen? ⟨g, i * 2, none⟩ = false ∧ W.frozen? ⟨g, i * 2 + 1, none⟩ = false := by
  obtain ⟨h0, f0⟩ := h.cell hi (c := 0) (by omega)
  obtain ⟨h1, f1⟩ := h.cell hi (c := 1) (by omega)
  rw [Nat.zero_add] at h0 f0 h1 f1
  exact ⟨⟨h0, h1⟩, f0, f1⟩

theorem run_clear_pts (w : World) (b o n c : Nat) (hn : 0 < n)
    (hc : ∀ j, j < n * 2 → (w.cell? ⟨b, o + j, none⟩).isSome = true) (hf : ∀ j, j < n * 2 → w.frozen? ⟨b, o + j, none⟩ = false) :
    ∃ zs : List Value, zs.length = n * 2 ∧ ∀ ty, (Builtin.clear_ #[24] ty #[.slice (some ⟨b, o, none⟩) n c]).run Try.prog w = .ok (.tuple #[]) (w.setCells b o zs) := by
  have hv := Try.zeroValue40
  have ht := Try.underlying24
  refine ⟨(Builtin.zeroCells (Value.agg #[.int .i64 0, .int .i64 0]).cells n).toList, by simp [Builtin.zeroCells, Value.cells], fun ty => ?_⟩
  have hl : (Builtin.zeroCells (Value.agg #[.int .i64 0, .int .i64 0]).cells n).toList.length = n * 2 := by simp [Builtin.zeroCells, Value.cells]
  have h1 : ∀ v ∈ (Builtin.zeroCells (Value.agg #[.int .i64 0, .int .i64 0]).cells n).toList, v.oneCell' = true := by
    intro v hv'
    simp only [Builtin.zeroCells, Value.cells, Array.toList_map, List.mem_map] at hv'
    obtain ⟨i, _, rfl⟩ := hv'
    rcases Nat.mod_two_eq_zero_or_one i with h | h <;> simp [h, Value.oneCell']
  have hst := run_storeCells_cells (P := Try.prog) b o (Builtin.zeroCells (Value.agg #[.int .i64 0, .int .i64 0]).cells n).toList 0 w (by rw [hl]; simpa using hc) (by rw [hl]; simpa using hf) h1
  simp only [Nat.add_zero] at hst
  obtain ⟨m, rfl⟩ : ∃ m, n = m + 1 := ⟨n - 1, by omega⟩
  generalize hz : Builtin.zeroCells (Value.agg #[.int .i64 0, .int .i64 0]).cells (m + 1) = Z at hst hl
  simp [Builtin.clear_, run_underlying ht, hv, hz, hst]

/-- what is left behind the call -/
def CpPost (w : World) (g : Nat) (d : Array S40) (w' : World) : Prop :=
  ∃ q F, w' = putRow id (Sort.ahead w q) g 0 F ∧ F.size = d.size * 2 ∧ ∀ t, t < (compactUpTo d d.size).length * 2 → F[t]! = (pcl (compactUpTo d d.size))[t]!
theorem CpPost.all {w : World} {g : Nat} {d : Array S40} (hH : HoldsK pe 2 w g 0 d) (hall : ∀ j, j < d.size → keeps d j = true) (q : Nat) : (compactUpTo d d.size).length = d.size ∧ CpPost w g d (w.drewN q) := by
  have e : compactUpTo d d.size = d.toList := by rw [compactUpTo_all d _ hall, range_map_get]
  unfold CpPost
  rw [e]
  refine ⟨by simp, q, flatK pe 2 d, ?_, by simp, fun t ht => ?_⟩
  · exact (putRowK_self pe 2 (Sort.ahead w q) g 0 d (holdsK_ahead pe 2 w q g 0 d hH)).symm
  · have := flat_is d.toList
    rw [Array.toArray_toList] at this
    rw [this, List.getElem!_toArray]
theorem pcl_get! (l : List S40) (t : Nat) (h : t < l.length * 2) : (pcl l)[t]! = (pe l[t / 2]!)[t % 2]! := by
  have e := pcl_get l t h
  have hm : t % 2 < 2 := Nat.mod_lt _ (by omega)
  rw [getElem!_pos (pcl l) t (by rw [pcl_length]; exact h), getElem!_pos (pe l[t / 2]!) (t % 2) hm]
  rw [List.getElem?_eq_getElem (by rw [pcl_length]; exact h), List.getElem?_eq_getElem (show t % 2 < (pe l[t / 2]!).length from hm)] at e
  injection e
theorem CpPost.fin {w wr : World} {g q kk : Nat} {d dk : Array S40} (hI : CompInv d d.size kk dk) (hwr : wr = putRowK pe 2 (Sort.ahead w q) g 0 dk) (zs : List Value) (hz : zs.length = (d.size - kk) * 2) : CpPost w g d (wr.setCells g (kk * 2) zs) := by
  have hk := hI.lt
  have hs := hI.size
  subst hwr
  refine ⟨q, setMany (flatK pe 2 dk) (kk * 2) zs, ?_, by simp [hs], fun t ht => ?_⟩
  · unfold putRowK
    rw [show kk * 2 = 0 + kk * 2 from by omega, setCells_putRow _ _ _ _ _ _ (by rw [size_flatK, hs, hz]; omega)]
    simp
  · rw [hI.len] at ht
    rw [get_setMany _ _ _ _ (by rw [size_flatK, hs]; omega), if_neg (by omega), get_flatK _ _ _ _ (by rw [hs]; omega), pcl_get! _ _ (by rw [hI.len]; exact ht)]
    have := hI.low (t / 2) (by omega)
    congr 2
    obtain ⟨h1, h2⟩ := List.getElem?_eq_some_iff.mp this
    rw [getElem!_pos (compactUpTo d d.size) (t / 2) h1, h2]
theorem put_one {W : World} {g i : Nat} {dk : Array S40} (hi : i < dk.size) (x : S40) :
    (putRowK pe 2 W g 0 dk).setCells g (i * 2) (pe x) = putRowK pe 2 W g 0 (dk.setIfInBounds i x) := by
  unfold putRowK
  have e := setCells_putRow W g 0 (pe x) (i * 2) (flatK pe 2 dk) (by rw [size_flatK, pe_len]; omega)
  rw [Nat.zero_add] at e
  rw [e]
  congr 1
  refine ext_get! (by simp) fun t ht => ?_
  have ht' : t < dk.size * 2 := by simpa using ht
  rw [get_setMany _ _ _ t (by simpa using ht'), get_flatK _ _ _ t ht', get_flatK _ _ _ t (by simpa using ht'), pe_len]
  by_cases a : t / 2 = i
  · rw [if_pos (by omega)]
    have : (dk.setIfInBounds i x)[t / 2]! = x := by rw [a, getElem!_set_same _ _ _ hi]
    rw [this]
    congr 1; omega
  · rw [if_neg (by omega), getElem!_set_other _ _ _ _ a]

set_option maxHeartbeats 4000000 in
set_option maxRecDepth 1000000 in
theorem compact_walk (g c : Nat) (d : Array S40) (w : World) (hH : HoldsK pe 2 w g 0 d) (hsz : d.size ≤ 1000000) (hcap : d.size ≤ c) :
    Calls Try.prog 74 #[.slice (some ⟨g, 0, none⟩) d.size c] w fun e w' => e = .returned (.slice (some ⟨g, 0, none⟩) (compactUpTo d d.size).length c) ∧ CpPost w g d w' := by
  have HS := Lib.hid (fun q h => CpPost.all hH h q)
  by_cases h2 : d.size < 2
  · clear hH
    go_enter Try.func74, Try.ntmps74
    go_wp2
    go_ret
    obtain ⟨e1, e2⟩ := HS.out 0 (fun j hj => keeps_lt_one d j (by omega))
    exact ⟨by rw [e1]; rfl, e2⟩
  · have HH := Lib.hid hH
    clear hH
    go_enter Try.func74, Try.ntmps74
    go_wp2
    go_loopg [3] d.size (fun gg s3 wr => ∃ k q : Nat, 1 ≤ k ∧ k ≤ d.size ∧ d.size - k ≤ gg ∧ s3 = .int .i64 k ∧ wr = w.drewN q ∧ ∀ j, j < k → keeps d j = true)
    case atStart => exact ⟨1, 0, Nat.le_refl _, by omega, by omega, rfl, rfl, keeps_lt_one d⟩
    case round =>
      obtain ⟨k, q, hk1, hk, hg, rfl, rfl, hall⟩ := hrel
      have HA := Lib.hid hall
      clear hall
      by_cases hlt : k < d.size
      · obtain ⟨⟨c1x, c1y⟩, _⟩ := cellP HH.out hlt
        obtain ⟨⟨c0x, c0y⟩, _⟩ := cellP HH.out (i := k - 1) (by omega)
        obtain ⟨x, hx⟩ : ∃ x, Hid (d[k]! = x) := ⟨_, rfl⟩
        obtain ⟨y, hy⟩ : ∃ y, Hid (d[k - 1]! = y) := ⟨_, rfl⟩
        rw [hx.out] at c1x c1y
        rw [hy.out] at c0x c0y
        by_cases hdup : x = y
        · have heq := pt_eq hdup
          have HD := Lib.hid hdup
          clear hdup
          go_wp2_with fail
          go_region
          go_wp2
          clear c0x c0y c1x c1y heq
          go_loopg [3, 5] d.size (fun gg s3 s5 wr => ∃ (kk k2 q2 : Nat) (dk : Array S40), s3 = .int .i64 kk ∧ s5 = .int .i64 k2 ∧ 1 ≤ k2 ∧ k + k2 ≤ d.size ∧ d.size - (k + k2) ≤ gg ∧ wr = putRowK pe 2 (Sort.ahead w q2) g 0 dk ∧ CompInv d (k + k2) kk dk)
          case atStart => exact ⟨k, 1, q + 1, d, rfl, rfl, Nat.le_refl _, by omega, by omega, (putRowK_self pe 2 (Sort.ahead w (q + 1)) g 0 d (holdsK_ahead pe 2 w (q + 1) g 0 d HH.out)).symm, CompInv.start HA.out (keeps_neg (by omega) (by rw [hx.out, hy.out, HD.out]))⟩
          case round =>
            obtain ⟨kk, k2, q2, dk, rfl, rfl, h1, hle, hg2, hwr, hI⟩ := hrel
            have hkk := hI.lt
            have hds := hI.size
            have hHk : HoldsK pe 2 wr g 0 dk := by rw [hwr]; exact holdsK_putRowK pe 2 _ g 0 d dk (holdsK_ahead pe 2 w q2 g 0 d HH.out) hds
            have W2 := Lib.hid hwr
            have I2 := Lib.hid hI
            clear hwr hI
            by_cases hlt2 : k + k2 < d.size
            · obtain ⟨⟨cmx, cmy⟩, _⟩ := cellP hHk (i := k + k2) (by omega)
              obtain ⟨⟨cpx, cpy⟩, _⟩ := cellP hHk (i := k + k2 - 1) (by omega)
              obtain ⟨⟨ckx, cky⟩, fkx, fky⟩ := cellP hHk (i := kk) (by omega)
              rw [I2.out.high (k + k2) (by omega), show (k + k2) * 2 = k * 2 + k2 * 2 by omega] at cmx cmy
              rw [I2.out.high (k + k2 - 1) (by omega), show (k + k2 - 1) * 2 = k * 2 + (k2 - 1) * 2 by omega] at cpx cpy
              clear hHk
              obtain ⟨u, hu⟩ : ∃ u, Hid (d[k + k2]! = u) := ⟨_, rfl⟩
              obtain ⟨v, hv⟩ : ∃ v, Hid (d[k + k2 - 1]! = v) := ⟨_, rfl⟩
              rw [hu.out] at cmx cmy
              rw [hv.out] at cpx cpy
              by_cases huv : u = v
              · have heq := pt_eq huv
                have HU := Lib.hid huv
                clear huv
                go_wp2_with fail
                go_region
                go_wp2
                go_roundg (d.size - (k + (k2 + 1)))
                case measure => omega
                case rel => exact ⟨kk, k2 + 1, q2 + 1, dk, rfl, by go_num, by omega, by omega, Nat.le_refl _, by rw [W2.out]; rfl, I2.out.skip (keeps_neg (by omega) (by rw [hu.out, hv.out, HU.out]))⟩
              · have heq := pt_ne huv
                have HU := Lib.hid huv
                clear huv
                go_wp2_with fail
                go_region
                go_wp2
                go_roundg (d.size - (k + (k2 + 1)))
                case measure => omega
                case rel =>
                  have hI := I2.out.keep hlt2 (keeps_pos (by rw [hu.out, hv.out]; exact HU.out))
                  rw [hu.out] at hI
                  exact ⟨kk + 1, k2 + 1, q2 + 1, dk.setIfInBounds kk u, by go_num, by go_num, by omega, by omega, Nat.le_refl _, (by rw [W2.out]; exact put_one (W := Sort.ahead w (q2 + 1)) (by omega) u), hI⟩
            · have hend : k + k2 = d.size := by omega
              obtain ⟨zs, hz, hcl⟩ : ∃ zs : List Value, zs.length = (d.size - kk) * 2 ∧ ∀ ty, (Builtin.clear_ #[24] ty #[.slice (some ⟨g, kk * 2, none⟩) (d.size - kk) (c - kk)]).run Try.prog wr = .ok (.tuple #[]) (wr.setCells g (kk * 2) zs) := by
                have hc : ∀ j, j < (d.size - kk) * 2 → (wr.cell? ⟨g, kk * 2 + j, none⟩).isSome = true ∧ wr.frozen? ⟨g, kk * 2 + j, none⟩ = false := fun j hj => by
                  have h1 := hHk (kk * 2 + j) (by rw [size_flatK, hds]; omega)
                  rw [Nat.zero_add] at h1
                  exact ⟨by rw [h1.1]; rfl, h1.2⟩
                exact run_clear_pts wr g (kk * 2) (d.size - kk) (c - kk) (by omega) (fun j hj => (hc j hj).1) (fun j hj => (hc j hj).2)
              have HZ := Lib.hid hz
              clear hHk hz
              go_wp2
              go_ret
              have hI := I2.out
              rw [hend] at hI
              exact ⟨by rw [hI.len]; rfl, CpPost.fin hI W2.out zs HZ.out⟩
        · have heq := pt_ne hdup
          have HD := Lib.hid hdup
          clear hdup
          go_wp2_with fail
          go_region
          go_wp2
          go_roundg (d.size - (k + 1))
          case measure => omega
          case rel =>
            refine ⟨k + 1, q + 1, by omega, by omega, Nat.le_refl _, by go_num, rfl, fun j hj => ?_⟩
            by_cases e : j = k
            · subst e
              exact keeps_pos (by rw [hx.out, hy.out]; exact HD.out)
            · exact HA.out j (by omega)
      · have hend : k = d.size := by omega
        subst hend
        go_wp2
        go_ret
        obtain ⟨e1, e2⟩ := HS.out q HA.out
        exact ⟨by rw [e1]; rfl, e2⟩

def slices_Compact_impl_Point_impl_Point.f (l0 : List S40) : Option (List S40) := if l0.length ≤ 1000000 then some (compact l0) else none
theorem slices_Compact_impl_Point_impl_Point.calls (P0_ : Nat → Prop) (u9000_ : Value) (l0 r : List S40) (w0 w : World) (hB : Below w0.heap.size w0 w) (ho0 : Kd.R k40 40 w w0.heap.size P0_ u9000_ l0)
    (h : slices_Compact_impl_Point_impl_Point.f l0 = some r) :
    Calls Try.prog 74 #[u9000_] w fun e w' => ∃ v0_ : Value, e = .returned (v0_) ∧ Kd.R k40 40 w' w0.heap.size (fun k_ => (P0_ k_ ∨ w.heap.size ≤ k_)) v0_ r ∧ Below w0.heap.size w0 w' ∧ Kept w w' (fun k_ => P0_ k_) := by
  unfold slices_Compact_impl_Point_impl_Point.f at h
  split at h
  case isFalse => cases h
  rename_i hm
  obtain rfl : compact l0 = r := by injection h
  obtain ⟨A, c, rfl, hn, hC⟩ := Kd.R_reads ho0
  rcases hA : A with _ | ⟨g, off, spot⟩
  · subst hA
    obtain ⟨_, ho⟩ := R_open ho0
    obtain ⟨_, ho⟩ := ho
    rcases ho with ⟨hv, hz⟩ | ⟨g', cap, cur, hv, _⟩
    · obtain rfl := List.length_eq_zero_iff.mp hz
      injection hv with _ _ hc
      subst hc
      clear hC hn
      go_enter Try.func74, Try.ntmps74
      go_wp2
      go_ret
      exact ⟨_, rfl, Kd.R_nil _ _ _ _ _, hB, Kept.refl _ _⟩
    · cases hv
  · subst hA
    obtain ⟨_, ho⟩ := R_open ho0
    obtain ⟨rfl, rfl⟩ : off = 0 ∧ spot = none := by
      obtain ⟨_, ho⟩ := ho
      rcases ho with ⟨hv, hz⟩ | ⟨g', cap, cur, hv, _⟩
      · cases hv
      · injection hv with h1; injection h1 with h1; injection h1 with h1 h2 h3; exact ⟨h2, h3⟩
    obtain ⟨hH, hg, _, _, _⟩ := own_holds ho
    refine (compact_walk g c l0.toArray w hH (by simpa using hm) (by simpa using hn)).mono ?_
    rintro e w' ⟨rfl, q, F, hw, hF, hF2⟩
    have hle : (compactUpTo l0.toArray l0.toArray.size).length ≤ l0.length := by
      unfold compactUpTo
      rw [List.length_map]
      exact Nat.le_trans (List.length_filter_le _ _) (by simp)
    refine ⟨_, rfl, row_done2 (l1 := compactUpTo l0.toArray l0.toArray.size) (q := q) (os := #[]) hB ho0 hle (by rw [hF]; have : l0.toArray.size = l0.length := rfl; omega) hF2 (by rw [hw, grow_empty])⟩
end Go.Proofs.Ytpplohjbifieiaa.PE
