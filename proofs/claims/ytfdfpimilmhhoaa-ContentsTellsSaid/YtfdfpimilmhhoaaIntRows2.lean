/-
  The Book with lists of texts: are they as they were; marks put; lists grown; are all marked.
-/
import Derived.Test.YtfdfpimilmhhoaaIntRows
import Derived.StillTailTactics
namespace Go.Proofs.Ytfdfpimilmhhoaa
open Go.RowKit
set_option linter.unusedVariables false

theorem IBk.below {w w' : World} {base g K : Nat} {ls ws : List IRow} (h : IBk w base g ls ws) (hb : Below K w w') (hK : w.heap.size ≤ K) : IBk w' base g ls ws := by
  obtain ⟨h1, A1, c1, A2, c2, hB, hO1, hO2, hs⟩ := h
  exact ⟨h1, A1, c1, A2, c2, hB.below hb (Nat.lt_of_lt_of_le hB.lt hK), hO1.below hb hK, hO2.below hb hK, hs⟩
theorem IRows.below {w w' : World} {base K : Nat} {rs : List IRow} (h : IRows w base rs) (hb : Below K w w') (hK : w.heap.size ≤ K) : IRows w' base rs := ⟨fun r hr => (h.1 r hr).below hb hK, h.2⟩
theorem IRows.alloc {w : World} {base : Nat} {rs : List IRow} (h : IRows w base rs) (o : Obj) : IRows (w.alloc o) base rs := ⟨fun r hr => (h.1 r hr).alloc o, h.2⟩
theorem IRows.at_ {w : World} {base : Nat} {rs : List IRow} (h : IRows w base rs) {i : Nat} {r : IRow} (hr : rs[i]? = some r) : Own w base 3 1 r.a r.xs.length r.c (inCells r.xs) := h.1 r (List.mem_of_getElem? hr)
/-- a cell of one list is turned -/
theorem IRows.store {w : World} {base : Nat} {rs : List IRow} (h : IRows w base rs) {i : Nat} {r : IRow} (hr : rs[i]? = some r) {q : Nat} (hq : r.a = some ⟨q, 0, none⟩) (k : Nat) (v : Int) :
    IRows (w.setCell ⟨q, k, none⟩ (.int .i64 v)) base (rs.set i ⟨r.a, r.c, r.xs.set k v⟩) := by
  have hO := only_setCell w q k (.int .i64 v)
  have hrow := h.at_ hr
  rw [hq] at hrow
  have hst := hrow.stored k (.int .i64 v)
  obtain ⟨hil, hie⟩ := List.getElem?_eq_some_iff.1 hr
  refine ⟨?_, ?_⟩
  · intro p hp
    obtain ⟨j, hj⟩ := List.mem_iff_getElem?.1 hp
    rw [List.getElem?_set] at hj
    split at hj
    · rename_i hij
      subst hij
      injection hj with hj
      subst hj
      simp only [List.length_set]
      rw [hq]
      have : inCells (r.xs.set k v) = (inCells r.xs).set k (.int .i64 v) := by simp [inCells, List.map_set]
      rw [this]
      exact hst
    · rename_i hij
      refine (h.1 p (List.mem_of_getElem? hj)).only hO ?_
      rw [← hq]
      have hpw := h.2
      rw [List.pairwise_iff_getElem] at hpw
      obtain ⟨hjl, rfl⟩ := List.getElem?_eq_some_iff.1 hj
      rcases Nat.lt_or_gt_of_ne hij with hh | hh
      · have := hpw i j hil hjl hh
        rw [hie] at this
        exact this.symm
      · have := hpw j i hjl hil hh
        rw [hie] at this
        exact this
  · have hsame : (rs.set i ⟨r.a, r.c, r.xs.set k v⟩).map (·.a) = rs.map (·.a) := by
      rw [List.map_set]
      apply List.ext_getElem?
      intro j
      rw [List.getElem?_set]
      split
      · rename_i e2
        subst e2
        simp [hil, hie]
      · rfl
    have h3 : (rs.map (·.a)).Pairwise Sep := List.pairwise_map.2 h.2
    rw [← hsame] at h3
    exact List.pairwise_map.1 h3
theorem IBk.store {w : World} {base g : Nat} {ls ws : List IRow} (h : IBk w base g ls ws) {base' q n c : Nat} {xs : List Value} (hr : Own w base' 3 1 (some ⟨q, 0, none⟩) n c xs) (k : Nat) (v : Value) : IBk (w.setCell ⟨q, k, none⟩ v) base g ls ws := by
  obtain ⟨h1, A1, c1, A2, c2, hB, hO1, hO2, hs⟩ := h
  have hO := only_setCell w q k v
  exact ⟨h1, A1, c1, A2, c2, hB.only hO (hr.blk_ne hB (by decide)), hO1.only hO (hO1.sep_ne hr (by decide)), hO2.only hO (hO2.sep_ne hr (by decide)), hs⟩
theorem irowCells_get {rs : List IRow} {i : Nat} {r : IRow} (h : rs[i]? = some r) : (irowCells rs)[i]? = some r.cell := by unfold irowCells; rw [List.getElem?_map, h]; rfl

set_option maxHeartbeats 2000000 in
set_option maxRecDepth 100000 in
theorem stillInts_any (w : World) (base g m : Nat) (ls ws : List IRow) (h : IBk w base g ls ws) (hm : ls.length = m) (hm2 : ws.length = m) (hmx : m ≤ 250)
    (hR : ∀ (i : Nat) (r s : IRow), ls[i]? = some r → ws[i]? = some s → r.xs = s.xs ∧ r.xs.length ≤ 1048576 ∧ Reads w w.heap.size 1 r.a r.xs.length (inCells r.xs) ∧ Reads w w.heap.size 1 s.a s.xs.length (inCells s.xs)) :
    Calls Try.prog 39 #[.pointer (some ⟨g, 0, none⟩)] w fun e w' => e = .returned (.bool true) ∧ Below w.heap.size w w' := by
  have HB := Lib.hid (fun W (b : Below w.heap.size w W) => h.below b (Nat.le_refl _))
  have HR := Lib.hid hR
  have HM := Lib.hid hm
  have HM2 := Lib.hid hm2
  clear h hR hm hm2
  go_enter Try.func39, Try.ntmps39
  go_wp2_with fail
  go_loopw [3] (fun s3 wr => ∃ k : Nat, k ≤ m ∧ s3 = .int .i64 (k : Int) ∧ Below w.heap.size w wr) (fun s3 _ => m - (intOf s3).toNat)
  case atStart => exact ⟨0, Nat.zero_le _, rfl, Below.refl _ _⟩
  case round =>
    obtain ⟨k, hk, rfl, hb⟩ := hrel
    obtain ⟨hbg, A1, c1, A2, c2, hB, hO1, hO2, hs⟩ := HB.out wr hb
    rw [HM.out, HM2.out] at hB
    rw [HM.out] at hO1
    rw [HM2.out] at hO2
    have k0 : wr.cell? ⟨g, 0 + 2, none⟩ = some (.slice A1 m c1) := hB.cell 2
    have k1 : wr.cell? ⟨g, 0 + 3, none⟩ = some (.slice A2 m c2) := hB.cell 3
    by_cases hlt : k < m
    · obtain ⟨r, hr⟩ : ∃ r, ls[k]? = some r := ⟨_, List.getElem?_eq_getElem (by have := HM.out; omega)⟩
      obtain ⟨s, hs2⟩ : ∃ s, ws[k]? = some s := ⟨_, List.getElem?_eq_getElem (by have := HM2.out; omega)⟩
      obtain ⟨q1, rfl, _, _⟩ := hO1.some_ (by omega)
      obtain ⟨q2, rfl, _, _⟩ := hO2.some_ (by omega)
      have k2 : wr.cell? ⟨q1, k, none⟩ = some (.slice r.a r.xs.length r.c) := hO1.cell (irowCells_get hr)
      have k3 : wr.cell? ⟨q2, k, none⟩ = some (.slice s.a s.xs.length s.c) := hO2.cell (irowCells_get hs2)
      obtain ⟨e1, e2, e3, e4⟩ := HR.out k r s hr hs2
      have HSM := Lib.hid (fun mm => sameInts_any r.a s.a r.xs.length s.xs.length r.c s.c w.heap.size r.xs s.xs (wr.drewN mm) ((e3.below hb).drewN mm) ((e4.below hb).drewN mm) (by omega) (by rw [← e1]; omega))
      have HE : Hid (decide (r.xs = s.xs) = true) := Lib.hid (decide_eq_true e1)
      rw [HE.out] at HSM
      clear e1 e2 e3 e4 hr hs2
      go_upto_region 4 with fail
      go_quiet ((go_at_call 11; exact Calls.quiet_of (HSM.out _)))
      go_wp2_with fail
      go_roundw
      case rel => exact ⟨k + 1, by omega, by go_num, below_drewN' hb _⟩
      case measure => simp [intOf]; omega
    · have hkm : k = m := by omega
      subst hkm
      go_wp2_with fail
      go_ret
      exact ⟨rfl, hb⟩
end Go.Proofs.Ytfdfpimilmhhoaa
