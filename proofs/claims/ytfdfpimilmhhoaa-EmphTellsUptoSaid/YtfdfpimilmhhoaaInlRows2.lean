/-
  The Book with lists of texts: are they as they were; marks put; lists grown; are all marked.
-/
import Derived.Test.YtfdfpimilmhhoaaInlRows
import Derived.StillTailTactics
namespace Go.Proofs.Ytfdfpimilmhhoaa
open Go.RowKit
set_option linter.unusedVariables false

theorem LBk.below {w w' : World} {base g K : Nat} {ls ws : List LRow} (h : LBk w base g ls ws) (hb : Below K w w') (hK : w.heap.size ≤ K) : LBk w' base g ls ws := by
  obtain ⟨h1, A1, c1, A2, c2, hB, hO1, hO2, hs⟩ := h
  exact ⟨h1, A1, c1, A2, c2, hB.below hb (Nat.lt_of_lt_of_le hB.lt hK), hO1.below hb hK, hO2.below hb hK, hs⟩
theorem LRows.below {w w' : World} {base K : Nat} {rs : List LRow} (h : LRows w base rs) (hb : Below K w w') (hK : w.heap.size ≤ K) : LRows w' base rs := ⟨fun r hr => (h.1 r hr).below hb hK, h.2⟩
theorem LRows.alloc {w : World} {base : Nat} {rs : List LRow} (h : LRows w base rs) (o : Obj) : LRows (w.alloc o) base rs := ⟨fun r hr => (h.1 r hr).alloc o, h.2⟩
theorem LRows.at_ {w : World} {base : Nat} {rs : List LRow} (h : LRows w base rs) {i : Nat} {r : LRow} (hr : rs[i]? = some r) : Own w base 95 5 r.a r.xs.length r.c (inlCells r.xs) := h.1 r (List.mem_of_getElem? hr)
/-- the five cells of an element, one after the other -/
def set5 (w : World) (q k : Nat) (v : Inl) : World := ((((w.setCell ⟨q, k * 5, none⟩ (.int .i64 v.kind)).setCell ⟨q, k * 5 + 1, none⟩ (.int .i64 v.depth)).setCell ⟨q, k * 5 + 2, none⟩ (.string v.text)).setCell ⟨q, k * 5 + 3, none⟩ (.string v.url)).setCell ⟨q, k * 5 + 4, none⟩ (.string v.title)
theorem only_set5 (w : World) (q k : Nat) (v : Inl) : Only w (set5 w q k v) (some ⟨q, 0, none⟩) :=
  ((((only_setCell w q _ _).trans (only_setCell _ q _ _)).trans (only_setCell _ q _ _)).trans (only_setCell _ q _ _)).trans (only_setCell _ q _ _)
theorem set5_size (w : World) (q k : Nat) (v : Inl) : (set5 w q k v).heap.size = w.heap.size := by simp [set5, World.setCell]
theorem cells_set5 (xs : List Inl) (k : Nat) (hk : k < xs.length) (v : Inl) : (((((inlCells xs).set (k * 5) (.int .i64 v.kind)).set (k * 5 + 1) (.int .i64 v.depth)).set (k * 5 + 2) (.string v.text)).set (k * 5 + 3) (.string v.url)).set (k * 5 + 4) (.string v.title) = inlCells (xs.set k v) := by
  have hx : xs[k]? = some xs[k] := List.getElem?_eq_getElem hk
  obtain ⟨a1, a2, a3, a4, a5⟩ := v
  generalize hg : xs[k] = y at hx
  obtain ⟨b1, b2, b3, b4, b5⟩ := y
  have e0 := flat_set Inl.cells 5 inl_len xs k 0 (by omega) (x' := ⟨a1, b2, b3, b4, b5⟩) (v := .int .i64 a1) hx rfl
  rw [Nat.add_zero] at e0
  have h1 : (xs.set k ⟨a1, b2, b3, b4, b5⟩)[k]? = some ⟨a1, b2, b3, b4, b5⟩ := by rw [List.getElem?_set_self hk]
  have e1 := flat_set Inl.cells 5 inl_len _ k 1 (by omega) (x' := ⟨a1, a2, b3, b4, b5⟩) (v := .int .i64 a2) h1 rfl
  rw [List.set_set] at e1
  have h2 : (xs.set k ⟨a1, a2, b3, b4, b5⟩)[k]? = some ⟨a1, a2, b3, b4, b5⟩ := by rw [List.getElem?_set_self hk]
  have e2 := flat_set Inl.cells 5 inl_len _ k 2 (by omega) (x' := ⟨a1, a2, a3, b4, b5⟩) (v := .string a3) h2 rfl
  rw [List.set_set] at e2
  have h3 : (xs.set k ⟨a1, a2, a3, b4, b5⟩)[k]? = some ⟨a1, a2, a3, b4, b5⟩ := by rw [List.getElem?_set_self hk]
  have e3 := flat_set Inl.cells 5 inl_len _ k 3 (by omega) (x' := ⟨a1, a2, a3, a4, b5⟩) (v := .string a4) h3 rfl
  rw [List.set_set] at e3
  have h4 : (xs.set k ⟨a1, a2, a3, a4, b5⟩)[k]? = some ⟨a1, a2, a3, a4, b5⟩ := by rw [List.getElem?_set_self hk]
  have e4 := flat_set Inl.cells 5 inl_len _ k 4 (by omega) (x' := ⟨a1, a2, a3, a4, a5⟩) (v := .string a5) h4 rfl
  rw [List.set_set] at e4
  rw [e0, e1, e2, e3, e4]
theorem Own.set5 {w : World} {base q n c : Nat} {xs : List Inl} (h : Own w base 95 5 (some ⟨q, 0, none⟩) n c (inlCells xs)) {k : Nat} (hk : k < xs.length) (v : Inl) : Own (set5 w q k v) base 95 5 (some ⟨q, 0, none⟩) n c (inlCells (xs.set k v)) := by
  have h1 := ((((h.stored (k * 5) (.int .i64 v.kind)).stored (k * 5 + 1) (.int .i64 v.depth)).stored (k * 5 + 2) (.string v.text)).stored (k * 5 + 3) (.string v.url)).stored (k * 5 + 4) (.string v.title)
  rw [cells_set5 xs k hk v] at h1
  exact h1
theorem LRows.store {w : World} {base : Nat} {rs : List LRow} (h : LRows w base rs) {i : Nat} {r : LRow} (hr : rs[i]? = some r) {q : Nat} (hq : r.a = some ⟨q, 0, none⟩) (k : Nat) (hk : k < r.xs.length) (v : Inl) :
    LRows (set5 w q k v) base (rs.set i ⟨r.a, r.c, r.xs.set k v⟩) := by
  have hO := only_set5 w q k v
  have hrow := h.at_ hr
  rw [hq] at hrow
  have hst := hrow.set5 hk v
  obtain ⟨hil, hie⟩ := List.getElem?_eq_some_iff.1 hr
  refine ⟨?_, ?_⟩
  · intro p hp
    obtain ⟨j, hj⟩ := List.mem_iff_getElem?.1 hp
    rw [List.getElem?_set] at hj
    split at hj
    · rename_i hij
      subst hij
      injection hj with hj
      subst hj
      simp only [List.length_set]
      rw [hq]
      exact hst
    · rename_i hij
      refine (h.1 p (List.mem_of_getElem? hj)).only hO ?_
      rw [← hq]
      have hpw := h.2
      rw [List.pairwise_iff_getElem] at hpw
      obtain ⟨hjl, rfl⟩ := List.getElem?_eq_some_iff.1 hj
      rcases Nat.lt_or_gt_of_ne hij with hh | hh
      · have := hpw i j hil hjl hh
        rw [hie] at this
        exact this.symm
      · have := hpw j i hjl hil hh
        rw [hie] at this
        exact this
  · have hsame : (rs.set i ⟨r.a, r.c, r.xs.set k v⟩).map (·.a) = rs.map (·.a) := by
      rw [List.map_set]
      apply List.ext_getElem?
      intro j
      rw [List.getElem?_set]
      split
      · rename_i e2
        subst e2
        simp [hil, hie]
      · rfl
    have h3 : (rs.map (·.a)).Pairwise Sep := List.pairwise_map.2 h.2
    rw [← hsame] at h3
    exact List.pairwise_map.1 h3
theorem LBk.store {w : World} {base g : Nat} {ls ws : List LRow} (h : LBk w base g ls ws) {base' q n c : Nat} {xs : List Value} (hr : Own w base' 95 5 (some ⟨q, 0, none⟩) n c xs) (k : Nat) (v : Inl) : LBk (set5 w q k v) base g ls ws := by
  obtain ⟨h1, A1, c1, A2, c2, hB, hO1, hO2, hs⟩ := h
  have hO := only_set5 w q k v
  exact ⟨h1, A1, c1, A2, c2, hB.only hO (hr.blk_ne hB (by decide)), hO1.only hO (hO1.sep_ne hr (by decide)), hO2.only hO (hO2.sep_ne hr (by decide)), hs⟩
theorem lrowCells_get {rs : List LRow} {i : Nat} {r : LRow} (h : rs[i]? = some r) : (lrowCells rs)[i]? = some r.cell := by unfold lrowCells; rw [List.getElem?_map, h]; rfl

set_option maxHeartbeats 2000000 in
set_option maxRecDepth 100000 in
theorem stillInls_any (w : World) (base g m : Nat) (ls ws : List LRow) (h : LBk w base g ls ws) (hm : ls.length = m) (hm2 : ws.length = m) (hmx : m ≤ 250)
    (hR : ∀ (i : Nat) (r s : LRow), ls[i]? = some r → ws[i]? = some s → r.xs = s.xs ∧ r.xs.length ≤ 1048576 ∧ Reads w w.heap.size 5 r.a r.xs.length (inlCells r.xs) ∧ Reads w w.heap.size 5 s.a s.xs.length (inlCells s.xs)) :
    Calls Try.prog 41 #[.pointer (some ⟨g, 0, none⟩)] w fun e w' => e = .returned (.bool true) ∧ Below w.heap.size w w' := by
  have HB := Lib.hid (fun W (b : Below w.heap.size w W) => h.below b (Nat.le_refl _))
  have HR := Lib.hid hR
  have HM := Lib.hid hm
  have HM2 := Lib.hid hm2
  clear h hR hm hm2
  go_enter Try.func41, Try.ntmps41
  go_wp2_with fail
  go_loopw [3] (fun s3 wr => ∃ k : Nat, k ≤ m ∧ s3 = .int .i64 (k : Int) ∧ Below w.heap.size w wr) (fun s3 _ => m - (intOf s3).toNat)
  case atStart => exact ⟨0, Nat.zero_le _, rfl, Below.refl _ _⟩
  case round =>
    obtain ⟨k, hk, rfl, hb⟩ := hrel
    obtain ⟨hbg, A1, c1, A2, c2, hB, hO1, hO2, hs⟩ := HB.out wr hb
    rw [HM.out, HM2.out] at hB
    rw [HM.out] at hO1
    rw [HM2.out] at hO2
    have k0 : wr.cell? ⟨g, 0 + 6, none⟩ = some (.slice A1 m c1) := hB.cell 6
    have k1 : wr.cell? ⟨g, 0 + 7, none⟩ = some (.slice A2 m c2) := hB.cell 7
    by_cases hlt : k < m
    · obtain ⟨r, hr⟩ : ∃ r, ls[k]? = some r := ⟨_, List.getElem?_eq_getElem (by have := HM.out; omega)⟩
      obtain ⟨s, hs2⟩ : ∃ s, ws[k]? = some s := ⟨_, List.getElem?_eq_getElem (by have := HM2.out; omega)⟩
      obtain ⟨q1, rfl, _, _⟩ := hO1.some_ (by omega)
      obtain ⟨q2, rfl, _, _⟩ := hO2.some_ (by omega)
      have k2 : wr.cell? ⟨q1, k, none⟩ = some (.slice r.a r.xs.length r.c) := hO1.cell (lrowCells_get hr)
      have k3 : wr.cell? ⟨q2, k, none⟩ = some (.slice s.a s.xs.length s.c) := hO2.cell (lrowCells_get hs2)
      obtain ⟨e1, e2, e3, e4⟩ := HR.out k r s hr hs2
      have HSM := Lib.hid (fun mm => sameInls_any r.a s.a r.xs.length s.xs.length r.c s.c w.heap.size r.xs s.xs (wr.drewN mm) ((e3.below hb).drewN mm) ((e4.below hb).drewN mm) (by omega) (by rw [← e1]; omega))
      have HE : Hid (decide (r.xs = s.xs) = true) := Lib.hid (decide_eq_true e1)
      rw [HE.out] at HSM
      clear e1 e2 e3 e4 hr hs2
      go_upto_region 4 with fail
      go_quiet ((go_at_call 25; exact Calls.quiet_of (HSM.out _)))
      go_wp2_with fail
      go_roundw
      case rel => exact ⟨k + 1, by omega, by go_num, below_drewN' hb _⟩
      case measure => simp [intOf]; omega
    · have hkm : k = m := by omega
      subst hkm
      go_wp2_with fail
      go_ret
      exact ⟨rfl, hb⟩
end Go.Proofs.Ytfdfpimilmhhoaa
