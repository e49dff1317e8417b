/-
  (*policy.Policy).add: the arm of a pair, and the whole contract.
-/
import Derived.Test.YtofloedgclodnaaDoorPolAdd
namespace Go.Proofs.YtofloedgclodnaaDoor
open Go.RowKit Go.Sort

theorem addT_pair (xs : List ByteArray) (ps : List (Int × Int)) (a b : ByteArray) :
    addT xs ps [a, ⟨#[60]⟩, b] = (decide (0 ≤ idxT xs a) && decide (0 ≤ idxT xs b) && (idxT xs a != idxT xs b), xs, ps ++ [(idxT xs a, idxT xs b)]) := by simp [addT]

set_option maxHeartbeats 2000000 in
set_option maxRecDepth 100000 in
theorem add_pair (base q : Nat) (xs : List ByteArray) (ps : List (Int × Int)) (l a b : ByteArray) (w w1 : World)
    (hxs : xs.length ≤ 1048576) (hps : ps.length ≤ 1048576) (H : Wds w w1 base q xs ps l [a, ⟨#[60]⟩, b]) :
    Calls Tryd.prog 39 #[.pointer (some ⟨q, 0, none⟩), .string l] w fun e w' => e = .returned (.bool (addT xs ps [a, ⟨#[60]⟩, b]).1) ∧ Pol w' base q (addT xs ps [a, ⟨#[60]⟩, b]).2.1 (addT xs ps [a, ⟨#[60]⟩, b]).2.2 ∧ Kept base q w w' := by
  obtain ⟨hsp, hown, hp1, hp, hbase, bb, bw, hws⟩ := H
  have HS := Lib.hid hsp
  clear hsp
  go_enter Tryd.func39, Tryd.ntmps39
  go_wp2_with fail
  refine HS.out.mono ?_
  rintro e w1' ⟨rfl, hw⟩
  subst w1'
  have HR := Lib.hid (addT_pair xs ps a b)
  have c0 := hown.cell (j := 0) (u := .string a) rfl
  have c1 : w1.cell? ⟨w.heap.size, 1, none⟩ = some (.string ⟨#[60]⟩) := hown.cell (j := 1) (u := .string ⟨#[60]⟩) rfl
  have c2 := hown.cell (j := 2) (u := .string b) rfl
  obtain ⟨A, n, c, B, m, d, hq, hB, hX, hP⟩ := hp1
  have hn : n ≤ 1048576 := by have := hX.len; simp [txCells] at this; omega
  have hm : m ≤ 1048576 := by have := hP.len; rw [prCells_length] at this; omega
  have e0 : w1.cell? ⟨q, 0, none⟩ = some (.slice A n c) := hB.cell 0
  have e1 : w1.cell? ⟨q, 1, none⟩ = some (.slice B m d) := hB.cell 1
  have hw1 := hB.lt
  have cI : ∀ z d1 os, Calls Tryd.prog 21 #[.agg #[.slice A n c, .slice B m d], .string z] (grow (redrawn w1 d1) os) fun e w'' => e = .returned (.int .i64 (idxT xs z)) ∧ ∃ p : Regrown, w'' = grow (redrawn w1 p.d) p.os := fun z d1 os =>
    Calls.regrown_of (index_any A B n c m d w1.heap.size xs z _ (hX.reads.below (below_regrown w1 d1 os)) (below_regrown w1 d1 os).size (by omega))
  have cA := cI a
  have cB := cI b
  clear cI
  generalize idxT xs a = ia at *
  generalize idxT xs b = ib at *
  simp only [List.length_cons, List.length_nil] at hown ⊢
  have gx := cell_regrown c0
  have gy := cell_regrown c2
  have g0 := cell_regrown e0
  have g1 := cell_regrown e1
  go_wp2_with fail
  refine wp_region_quiet_below (by kernel_rfl) (by kernel_rfl) ?_
  repeat (with_reducible refine wpQuiet_step (fun K hK => ?_)
          go_simp
          first
            | (with_reducible refine hK _ ?_
               clear hK K)
            | (apply Exists.intro
               with_reducible refine ⟨fun _ => ?_, hK _ ?_⟩
               first | (go_at_call_of 21 (Value.string a); exact cA _ _) | (go_at_call_of 21 (Value.string b); exact cB _ _)
               clear hK K))
  refine wpQuiet_nil ?_
  intro _ hw'
  obtain ⟨p, rfl⟩ := hw'
  have br := below_regrown w1 p.d p.os
  have bz := bw.trans (br.mono (by have := bw.size; omega))
  replace hB := hB.below br hB.lt
  replace hX := hX.below br (Nat.le_refl _)
  replace hP := hP.below br (Nat.le_refl _)
  clear c0 c1 c2 e0 e1 g0 g1 gx gy cA cB br hown
  generalize grow (redrawn w1 p.d) p.os = w2 at *
  have e1 : w2.cell? ⟨q, 1, none⟩ = some (.slice B m d) := hB.cell 1
  have f1 := hB.frozen 1
  have hBq := hP.blk_ne hB (by decide)
  have hz := bz.size
  have hi : decide (0 ≤ ia) = true ∨ decide (0 ≤ ia) = false := by cases decide (0 ≤ ia) <;> simp
  have hj : decide (0 ≤ ib) = true ∨ decide (0 ≤ ib) = false := by cases decide (0 ≤ ib) <;> simp
  have hk : (ia != ib) = true ∨ (ia != ib) = false := by cases (ia != ib) <;> simp
  have hR : ∀ r : Bool, r = (decide (0 ≤ ia) && decide (0 ≤ ib) && (ia != ib)) → r = (addT xs ps [a, ⟨#[60]⟩, b]).1 := fun r h => by rw [HR.out, h]
  have hF : ∀ A' c' w3, Own w3 base 63 2 A' (m + 1) c' (prCells ps ++ [.int .i64 ia, .int .i64 ib]) → Only (w2.alloc (.cells #[.int .i64 ia, .int .i64 ib] 63)) w3 B → Blk w3 q 25 #[.slice A n c, .slice B m d] →
      Pol (w3.setCell ⟨q, 1, none⟩ (.slice A' (m + 1) c')) base q (addT xs ps [a, ⟨#[60]⟩, b]).2.1 (addT xs ps [a, ⟨#[60]⟩, b]).2.2 ∧ Kept base q w (w3.setCell ⟨q, 1, none⟩ (.slice A' (m + 1) c')) := fun A' c' w3 hP3 ho hB3 => by
    rw [HR.out]
    refine ⟨⟨A, n, c, A', m + 1, c', ?_, hB3.set_ 1 _, ?_, ?_⟩, ?_⟩
    · have := ho.size
      simp [World.setCell] at this ⊢
      omega
    · have hX3 := (hX.alloc (.cells #[.int .i64 ia, .int .i64 ib] 63)).only ho (hX.sep_ne hP (by decide))
      exact hX3.only (only_setCell w3 q 1 _) (fun u v hu hv => by injection hv with hv; rw [← hv]; exact hX3.blk_ne hB3 (by decide) u hu)
    · have e0 : prCells (ps ++ [(ia, ib)]) = prCells ps ++ [.int .i64 ia, .int .i64 ib] := by simp [prCells]
      rw [e0]
      exact hP3.only (only_setCell w3 q 1 _) (fun u v hu hv => by injection hv with hv; rw [← hv]; exact hP3.blk_ne hB3 (by decide) u hu)
    · have b1 : Below base w (w2.alloc (.cells #[.int .i64 ia, .int .i64 ib] 63)) := bz.alloc (by omega) _
      have b2 : Below base (w2.alloc (.cells #[.int .i64 ia, .int .i64 ib] 63)) w3 := ho.below (fun u hu => (hP.lt hu).1) (by have := b1.size; simp; omega)
      exact (Kept.of_below (b1.trans b2)).set_ 1 _
  clear HR
  rcases hi with hi | hi <;> rcases hj with hj | hj <;> rcases hk with hk | hk
  all_goals
    have hR' := Lib.hid hR
    clear hR
    go_wp2_with (at_builtin; refine wpList_app1 Tryd.elPr rfl (.tmp 88) (.tmp 92) rfl rfl (by exact hP.alloc _) rfl (Blk.new' _ _ _ _ (by simp)) rfl (by simp [Value.oneCell']) (by simp only [maxLen]; omega) (by omega) (by simp; omega) ?_
                 intro A' c' w3 hP3 ho hmv
                 have hB3 := (hB.alloc (.cells #[.int .i64 ia, .int .i64 ib] 63)).only ho hBq
                 have f3 := hB3.frozen 1
                 have e3 : w3.cell? ⟨q, 1, none⟩ = some (.slice B m d) := hB3.cell 1)
    go_ret
    have hh := hF A' c' w3 hP3 ho hB3
    refine ⟨?_, hh⟩
    rw [← hR'.out _ (by rw [hi, hj, hk])]
    first | rfl | simp [hk]

set_option maxHeartbeats 1000000 in
set_option maxRecDepth 100000 in
/-- a line of other words says nothing -/
theorem add_none (base q : Nat) (xs : List ByteArray) (ps : List (Int × Int)) (l : ByteArray) (ws : List ByteArray) (w w1 : World) (H : Wds w w1 base q xs ps l ws) (h0 : ws ≠ [])
    (h2 : ∀ x, ws ≠ [levelB, x]) (h3 : ∀ a b, ws ≠ [a, ⟨#[60]⟩, b]) :
    Calls Tryd.prog 39 #[.pointer (some ⟨q, 0, none⟩), .string l] w fun e w' => e = .returned (.bool (addT xs ps ws).1) ∧ Pol w' base q (addT xs ps ws).2.1 (addT xs ps ws).2.2 ∧ Kept base q w w' := by
  obtain ⟨hsp, hown, hp1, hp, hbase, bb, bw, hws⟩ := H
  have HS := Lib.hid hsp
  clear hsp
  go_enter Tryd.func39, Tryd.ntmps39
  go_wp2_with fail
  refine HS.out.mono ?_
  rintro e w1' ⟨rfl, hw⟩
  subst w1'
  rcases ws with _ | ⟨a, _ | ⟨x, _ | ⟨b, _ | ⟨c, t⟩⟩⟩⟩
  · exact absurd rfl h0
  · clear h2 h3
    go_wp2_with fail
    go_ret
    exact ⟨rfl, hp1, .of_below bw⟩
  · have c0 := hown.cell (j := 0) (u := .string a) rfl
    have ha : ¬ a = levelB := fun h => h2 x (by rw [h])
    clear h2 h3
    have HR : Hid (addT xs ps [a, x] = (false, xs, ps)) := Lib.hid (if_neg ha)
    obtain ⟨t1, t2, t3⟩ := bytes_ne ha
    unfold levelB at t1 t2 t3
    rw [show (⟨#[108, 101, 118, 101, 108]⟩ : ByteArray).toList = [108, 101, 118, 101, 108] by rw [ByteArray.toList_eq]] at t2 t3
    clear ha
    go_wp2_with fail
    go_ret
    rw [HR.out]
    exact ⟨rfl, hp1, .of_below bw⟩
  · have c1 := hown.cell (j := 1) (u := .string x) rfl
    have ha : ¬ x = ⟨#[60]⟩ := fun h => h3 a b (by rw [h])
    clear h2 h3
    have HR : Hid (addT xs ps [a, x, b] = (false, xs, ps)) := Lib.hid (if_neg ha)
    obtain ⟨t1, t2, t3⟩ := bytes_ne ha
    rw [show (⟨#[60]⟩ : ByteArray).toList = [60] by rw [ByteArray.toList_eq]] at t2 t3
    clear ha
    go_wp2_with fail
    go_ret
    rw [HR.out]
    exact ⟨rfl, hp1, .of_below bw⟩
  · clear h2 h3
    have q1 : (((t.length : Int) + 1 + 1 + 1 + 1) == 2) = false := beq_eq_false_iff_ne.2 (by omega)
    have q2 : (((t.length : Int) + 1 + 1 + 1 + 1) == 3) = false := beq_eq_false_iff_ne.2 (by omega)
    have q3 : (((t.length + 1 + 1 + 1 + 1 : Nat) : Int) == 2) = false := beq_eq_false_iff_ne.2 (by omega)
    have q4 : (((t.length + 1 + 1 + 1 + 1 : Nat) : Int) == 3) = false := beq_eq_false_iff_ne.2 (by omega)
    have HR : Hid (addT xs ps (a :: x :: b :: c :: t) = (false, xs, ps)) := Lib.hid rfl
    simp only [List.length_cons] at hown ⊢
    generalize t.length = tl at *
    go_wp2_with fail
    go_ret
    rw [HR.out]
    exact ⟨rfl, hp1, .of_below bw⟩

theorem add_any (base q : Nat) (xs : List ByteArray) (ps : List (Int × Int)) (l : ByteArray) (w : World) (hg : Glb w) (hp : Pol w base q xs ps) (hb0 : 0 < base) (hl : l.size ≤ 1048576)
    (hxs : xs.length ≤ 1048576) (hps : ps.length ≤ 1048576) :
    Calls Tryd.prog 39 #[.pointer (some ⟨q, 0, none⟩), .string l] w fun e w' => e = .returned (.bool (addT xs ps (wordsB l)).1) ∧ Pol w' base q (addT xs ps (wordsB l)).2.1 (addT xs ps (wordsB l)).2.2 ∧ Kept base q w w' := by
  obtain ⟨m, hm⟩ := hg
  have hsp := Tryd.strings_Split l ⟨#[32]⟩ m w (by omega) hm (Nat.le_refl _)
  have hlen := Lib.splitB_all ⟨#[32]⟩ (Nat.le_refl _) 0 _ l rfl
  have hcl := Lib.countB_le ⟨#[32]⟩ (Nat.le_refl _) l.size l (Nat.le_refl _)
  have hws := splitB_size ⟨#[32]⟩ (Lib.countB l ⟨#[32]⟩) l
  unfold wordsB
  generalize Lib.splitB ⟨#[32]⟩ 0 (Lib.countB l ⟨#[32]⟩) l = ws at *
  generalize Lib.countB l ⟨#[32]⟩ = k at *
  rw [← hlen] at hsp
  have hown : Own (w.alloc (.cells (ws.map Value.string).toArray 9)) w.heap.size 9 1 (some ⟨w.heap.size, 0, none⟩) ws.length ws.length (txCells ws) := by
    have := World.ownsRow_lit (base := w.heap.size) (e := 9) (size := 1) w (ws.map Value.string).toArray ws.length (Nat.le_refl _) (by unfold maxLen; omega) (by simp)
    simpa [Own, txCells] using this
  have bb : Below w.heap.size w (w.alloc (.cells (ws.map Value.string).toArray 9)) := (Below.refl _ _).alloc (Nat.le_refl _) _
  have hbase : base ≤ w.heap.size := by
    obtain ⟨A, n, c, B, m, d, h0, h1, _⟩ := hp
    exact h0
  have H : Wds w (w.alloc (.cells (ws.map Value.string).toArray 9)) base q xs ps l ws :=
    ⟨hsp, hown, hp.below bb (Nat.le_refl _), hp, hbase, bb, bb.mono hbase, fun x hx => Nat.le_trans (hws x hx) hl⟩
  by_cases h2 : ∃ x, ws = [levelB, x]
  · obtain ⟨x, rfl⟩ := h2
    exact add_level base q xs ps l x w _ hb0 hxs hps H
  · by_cases h3 : ∃ a b, ws = [a, ⟨#[60]⟩, b]
    · obtain ⟨a, b, rfl⟩ := h3
      exact add_pair base q xs ps l a b w _ hxs hps H
    · exact add_none base q xs ps l ws w _ H (by rintro rfl; simp at hlen) (fun x h => h2 ⟨x, h⟩) (fun a b h => h3 ⟨a, b, h⟩)
end Go.Proofs.YtofloedgclodnaaDoor
