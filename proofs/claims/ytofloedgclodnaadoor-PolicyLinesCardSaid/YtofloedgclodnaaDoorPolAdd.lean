/-
  (*policy.Policy).add: its contract.
-/
import Derived.Test.YtofloedgclodnaaDoorPolRight
import Derived.Deep.RegionLaw
import Derived.Lib.QuietBelow
import Derived.Deep.DeepCutAuto
namespace Go.Proofs.YtofloedgclodnaaDoor
open Go.RowKit Go.Sort

/-- a line's words -/
def wordsB (l : ByteArray) : List ByteArray := Lib.splitB ⟨#[32]⟩ 0 (Lib.countB l ⟨#[32]⟩) l
def levelB : ByteArray := ⟨#[108, 101, 118, 101, 108]⟩
/-- what a line that says something makes of a policy -/
def addT (xs : List ByteArray) (ps : List (Int × Int)) : List ByteArray → Bool × List ByteArray × List (Int × Int)
  | [a, x] => if a = levelB then (nameT (L x) && (idxT (xs ++ [x]) x == ((xs ++ [x]).length : Int) - 1) && decide ((xs ++ [x]).length ≤ 64), xs ++ [x], ps) else (false, xs, ps)
  | [a, m, b] => if m = ⟨#[60]⟩ then (decide (0 ≤ idxT xs a) && decide (0 ≤ idxT xs b) && (idxT xs a != idxT xs b), xs, ps ++ [(idxT xs a, idxT xs b)]) else (false, xs, ps)
  | _ => (false, xs, ps)

/-- a policy that is being made: its variable, its two rows -/
def Pol (w : World) (base q : Nat) (xs : List ByteArray) (ps : List (Int × Int)) : Prop :=
  ∃ A n c B m d, base ≤ w.heap.size ∧ Blk w q 25 #[.slice A n c, .slice B m d] ∧ Own w base 9 1 A n c (txCells xs) ∧ Own w base 63 2 B m d (prCells ps)
theorem Pol.below {w w' : World} {base q K : Nat} {xs : List ByteArray} {ps : List (Int × Int)} (h : Pol w base q xs ps) (hb : Below K w w') (hK : w.heap.size ≤ K) : Pol w' base q xs ps := by
  obtain ⟨A, n, c, B, m, d, h0, h1, h2, h3⟩ := h
  exact ⟨A, n, c, B, m, d, Nat.le_trans h0 hb.size, h1.below hb (by have := h1.lt; omega), h2.below hb hK, h3.below hb hK⟩

/-- all that lay below K is as it was, but the block q -/
structure Kept (K q : Nat) (w w' : World) : Prop where
  os : w'.os = w.os
  tape : w'.tape = w.tape
  output : w'.output = w.output
  size : w.heap.size ≤ w'.heap.size
  block : ∀ k, k < K → k ≠ q → w'.heap[k]? = w.heap[k]?
theorem Kept.of_below {K q : Nat} {w w' : World} (h : Below K w w') : Kept K q w w' := ⟨h.os, h.tape, h.output, h.size, fun k hk _ => h.block k hk⟩
theorem Kept.trans {K q : Nat} {a b c : World} (h : Kept K q a b) (k : Kept K q b c) : Kept K q a c :=
  ⟨k.os.trans h.os, k.tape.trans h.tape, k.output.trans h.output, Nat.le_trans h.size k.size, fun i hi hq => (k.block i hi hq).trans (h.block i hi hq)⟩
theorem Kept.set_ {K q : Nat} {w w' : World} (h : Kept K q w w') (i : Nat) (u : Value) : Kept K q w (w'.setCell ⟨q, i, none⟩ u) :=
  h.trans ⟨rfl, rfl, rfl, by simp [World.setCell], fun _ _ hq => Below.heap_setCell _ _ _ _ hq⟩
theorem Kept.below {K B q : Nat} {w w' : World} (h : Kept K q w w') (hB : B ≤ K) (hq : B ≤ q) : Below B w w' :=
  ⟨h.os, h.tape, h.output, h.size, fun k hk => h.block k (by omega) (by omega)⟩

theorem Tryd.elPr : Elem Tryd.prog 23 63 2 16 := Elem.mk' (z := .agg #[.int .i64 0, .int .i64 0]) Tryd.underlying23 (by kernel_rfl) rfl (by decide)

theorem splitB_size (sep : ByteArray) : ∀ (k : Nat) (s x : ByteArray), x ∈ Lib.splitB sep 0 k s → x.size ≤ s.size
  | 0, s, x, h => by
    rw [Lib.splitB_zero, List.mem_singleton] at h; rw [h]; exact Nat.le_refl _
  | k + 1, s, x, h => by
    rw [Lib.splitB] at h
    split at h
    · rw [List.mem_singleton] at h; rw [h]; exact Nat.le_refl _
    · rcases List.mem_cons.1 h with h | h
      · rw [h, ByteArray.size_extract]; omega
      · have := splitB_size sep k _ x h
        rw [ByteArray.size_extract] at this; omega

theorem Own.blk_ne {w : World} {base e size n c g t : Nat} {A : Option Addr} {xs : List Value} {cs : Array Value} (h : Own w base e size A n c xs) (hb : Blk w g t cs) (hne : e ≠ t) : ∀ a, A = some a → a.block ≠ g := by
  intro a ha e0
  rcases h.2 with ⟨h0, _⟩ | ⟨g', cap, cur, hv, _, hh, _⟩
  · injection h0 with h0; rw [h0] at ha; cases ha
  · injection hv with hv
    rw [hv] at ha; injection ha with ha
    rw [← ha] at e0
    have e1 : g' = g := e0
    rw [e1, hb] at hh
    injection hh with hh; injection hh with _ hh
    exact hne hh.symm

/-- 'append(s, x)' of one element, inside a region that draws -/
theorem step_app1 {P : Program} {w : World} {ops : Array Oper} {E' : Prop} {o : Oper} {a : Act} {K : Act → World → Prop} {Q : Exit → Act → World → Prop} {t e size bytes : Nat} (E : Elem P t e size bytes) (hgd : o.guard = none) (s x : Operand)
    (ho : o.op = .call { callee := .builtin .append, args := #[s, x], argTypes := #[t, t] })
    {base : Nat} {A : Option Addr} {n c : Nat} {xs : List Value} (hs : a.eval s = .slice A n c) (hown : Own w base e size A n c xs)
    {g : Nat} {cs : Array Value} (hx : a.eval x = .slice (some ⟨g, 0, none⟩) 1 1) (hg : Blk w g e cs) (hcs : cs.size = size) (h1 : ∀ u ∈ cs.toList, u.oneCell' = true)
    (h63 : n + 1 ≤ maxLen) (hbytes : (n + 1) * bytes ≤ 140737488355328) (hbase : base ≤ w.heap.size)
    (h : ∀ A' c' w', Own w' base e size A' (n + 1) c' (xs ++ cs.toList) → Only w w' A → Moved w A A' → K (a.put o.dst (.slice A' (n + 1) c')) w') :
    if Region.wanted o (yielded ops a.tmps) = true then Oper.wp P o a w K Q else E' := by
  have hw : Region.wanted o (yielded ops a.tmps) = true := by simp [Region.wanted, hgd]
  rw [if_pos hw]
  obtain ⟨i, z, hi, hz, hsize, hby, hzs⟩ := E.info
  have hr : Reads w w.heap.size size (some ⟨g, 0, none⟩) 1 cs.toList := ⟨by simp [hcs], fun _ => ⟨_, rfl, hg.lt, fun j u hu => by
    have : (⟨g, 0, none⟩ : Addr).add j = ⟨g, j, none⟩ := by unfold Addr.add; split <;> simp_all
    rw [this, hg.cell j]
    simpa using hu⟩⟩
  refine wp_append_any w s x t ho base e i z size bytes E.und hi hz hsize hby hzs E.pos _ n xs hs hown w.heap.size (some ⟨g, 0, none⟩) 1 1 cs.toList hx hr h1 h63 hbytes hbase (fun v' w' h2 h3 h4 => ?_)
  obtain ⟨A', c', rfl⟩ := slice_of_own h2
  rw [ownBlock_slice] at h3 h4
  rw [ownBlock_slice] at h4
  exact h A' c' w' h2 h3 h4

theorem addT_level (xs : List ByteArray) (ps : List (Int × Int)) (x : ByteArray) :
    addT xs ps [levelB, x] = (nameT (L x) && (idxT (xs ++ [x]) x == ((xs ++ [x]).length : Int) - 1) && decide ((xs ++ [x]).length ≤ 64), xs ++ [x], ps) := by simp [addT]
/-- what 'add' meets: the line's words in a new row -/
structure Wds (w w1 : World) (base q : Nat) (xs : List ByteArray) (ps : List (Int × Int)) (l : ByteArray) (ws : List ByteArray) : Prop where
  call : Calls Tryd.prog 57 #[.string l, .string ⟨#[32]⟩] w fun e w' => e = .returned (.slice (some ⟨w.heap.size, 0, none⟩) ws.length ws.length) ∧ w' = w1
  row : Own w1 w.heap.size 9 1 (some ⟨w.heap.size, 0, none⟩) ws.length ws.length (txCells ws)
  pol : Pol w1 base q xs ps
  pol0 : Pol w base q xs ps
  le : base ≤ w.heap.size
  below0 : Below w.heap.size w w1
  below : Below base w w1
  sz : ∀ x ∈ ws, x.size ≤ 1048576

set_option maxHeartbeats 2000000 in
set_option maxRecDepth 100000 in
theorem add_level (base q : Nat) (xs : List ByteArray) (ps : List (Int × Int)) (l x : ByteArray) (w w1 : World) (_ : 0 < base)
    (hxs : xs.length ≤ 1048576) (_ : ps.length ≤ 1048576) (H : Wds w w1 base q xs ps l [levelB, x]) :
    Calls Tryd.prog 39 #[.pointer (some ⟨q, 0, none⟩), .string l] w fun e w' => e = .returned (.bool (addT xs ps [levelB, x]).1) ∧ Pol w' base q (addT xs ps [levelB, x]).2.1 (addT xs ps [levelB, x]).2.2 ∧ Kept base q w w' := by
  obtain ⟨hsp, hown, hp1, hp, hbase, bb, bw, hws⟩ := H
  have HS := Lib.hid hsp
  clear hsp
  go_enter Tryd.func39, Tryd.ntmps39
  go_wp2_with fail
  refine HS.out.mono ?_
  rintro e w1' ⟨rfl, hw⟩
  subst w1'
  have c0 : w1.cell? ⟨w.heap.size, 0, none⟩ = some (.string levelB) := hown.cell (j := 0) (u := .string levelB) rfl
  have c1 := hown.cell (j := 1) (u := .string x) rfl
  unfold levelB at c0
  obtain ⟨A, n, c, B, m, d, hq, hB, hX, hP⟩ := hp
  have hAw : ∀ a, A = some a → a.block < w.heap.size := fun a ha => (hX.lt ha).2
  replace hB := hB.below bb hB.lt
  replace hX := hX.below bb (Nat.le_refl _)
  replace hP := hP.below bb (Nat.le_refl _)
  simp only [List.length_cons, List.length_nil] at HS hown ⊢
  have d0 : w1.cell? ⟨q, 0, none⟩ = some (.slice A n c) := hB.cell 0
  have f0 := hB.frozen 0
  have hn : n ≤ 1048576 := by have := hX.len; simp [txCells] at this; omega
  have hw1 := hB.lt
  have hw2 := bb.size
  have hAq := hX.blk_ne hB (by decide)
  go_upto_region 3 with fail
  go_cut [20] (fun _ wx => Pol wx base q (xs ++ [x]) ps ∧ wx.cell? ⟨w.heap.size, 1, none⟩ = some (.string x) ∧ Kept base q w wx)
  case rest =>
    obtain ⟨hpol, cx, bx⟩ := hcut
    have hpol2 := hpol
    obtain ⟨A2, n2, c2, B2, m2, d2, hq2, hB2, hX2, hP2⟩ := hpol2
    have hxz : x.size ≤ 9223372036854775807 := by have := hws x (by simp); omega
    have hb2 := hB2.lt
    have e0 : wc.cell? ⟨q, 0, none⟩ = some (.slice A2 n2 c2) := hB2.cell 0
    have e1 : wc.cell? ⟨q, 1, none⟩ = some (.slice B2 m2 d2) := hB2.cell 1
    have hn2 : n2 = xs.length + 1 := by have := hX2.len; simp [txCells] at this; omega
    have cN : ∀ d os, Calls Tryd.prog 31 #[.string x] (grow (redrawn wc d) os) fun e w'' => e = .returned (.bool (nameT (L x))) ∧ ∃ p : Regrown, w'' = grow (redrawn wc p.d) p.os := fun d os =>
      Calls.regrown_of (name_any x _ hxz)
    have cI : ∀ d os, Calls Tryd.prog 21 #[.agg #[.slice A2 n2 c2, .slice B2 m2 d2], .string x] (grow (redrawn wc d) os) fun e w'' => e = .returned (.int .i64 (idxT (xs ++ [x]) x)) ∧ ∃ p : Regrown, w'' = grow (redrawn wc p.d) p.os := fun d os =>
      Calls.regrown_of (index_any A2 B2 n2 c2 m2 d2 wc.heap.size (xs ++ [x]) x _ (hX2.reads.below (below_regrown wc d os)) (below_regrown wc d os).size (by omega))
    have gx := cell_regrown cx
    have g0 := cell_regrown e0
    have g1 := cell_regrown e1
    have hwr : IntKind.i64.wrap ((n2 : Int) - 1) = (n2 : Int) - 1 := IntWalk.i64_in _ (by omega)
    have hbb := bx.size
    have hlen2 : (xs ++ [x]).length = n2 := by simp [hn2]
    clear hn2
    cases hnm : nameT (L x)
    · rw [hnm] at cN
      have HR : Hid (addT xs ps [levelB, x] = (false, xs ++ [x], ps)) := Lib.hid (by simp only [addT_level, hnm, Bool.false_and])
      go_wp2_with fail
      refine wp_region_quiet_below (by kernel_rfl) (by kernel_rfl) ?_
      repeat (with_reducible refine wpQuiet_step (fun K hK => ?_)
              go_simp
              first
                | (with_reducible refine hK _ ?_
                   clear hK K)
                | (apply Exists.intro
                   with_reducible refine ⟨fun _ => ?_, hK _ ?_⟩
                   first | (go_at_call_of 31 x; exact cN _ _)
                   clear hK K))
      refine wpQuiet_nil ?_
      intro _ hw'
      obtain ⟨p, rfl⟩ := hw'
      go_wp2_with fail
      go_ret
      rw [HR.out]
      exact ⟨rfl, hpol.below (below_regrown wc _ _) (Nat.le_refl _), bx.trans (.of_below ((below_regrown wc _ _).mono (by omega)))⟩
    · rw [hnm] at cN
      by_cases hix : idxT (xs ++ [x]) x = (n2 : Int) - 1
      · have E1 : (idxT (xs ++ [x]) x == (n2 : Int) - 1) = true := by simp [hix]
        rw [hix] at cI
        by_cases h64 : n2 ≤ 64
        · have E2 : decide ((n2 : Int) ≤ 64) = true := decide_eq_true (by omega)
          have E3 : decide (n2 ≤ 64) = true := decide_eq_true h64
          have HR : Hid (addT xs ps [levelB, x] = (true, xs ++ [x], ps)) := Lib.hid (by simp only [addT_level, hnm, hlen2, E1, E3, Bool.and_true])
          go_wp2_with fail
          refine wp_region_quiet_below (by kernel_rfl) (by kernel_rfl) ?_
          repeat (with_reducible refine wpQuiet_step (fun K hK => ?_)
                  go_simp
                  first
                    | (with_reducible refine hK _ ?_
                       clear hK K)
                    | (apply Exists.intro
                       with_reducible refine ⟨fun _ => ?_, hK _ ?_⟩
                       first | (go_at_call_of 31 x; exact cN _ _) | (go_at_call_of 21 A2; exact cI _ _)
                       clear hK K))
          refine wpQuiet_nil ?_
          intro _ hw'
          obtain ⟨p, rfl⟩ := hw'
          go_wp2_with fail
          go_ret
          rw [HR.out]
          exact ⟨rfl, hpol.below (below_regrown wc _ _) (Nat.le_refl _), bx.trans (.of_below ((below_regrown wc _ _).mono (by omega)))⟩
        · have E2 : decide ((n2 : Int) ≤ 64) = false := decide_eq_false (by omega)
          have E3 : decide (n2 ≤ 64) = false := decide_eq_false h64
          have HR : Hid (addT xs ps [levelB, x] = (false, xs ++ [x], ps)) := Lib.hid (by simp only [addT_level, hnm, hlen2, E1, E3, Bool.and_false])
          go_wp2_with fail
          refine wp_region_quiet_below (by kernel_rfl) (by kernel_rfl) ?_
          repeat (with_reducible refine wpQuiet_step (fun K hK => ?_)
                  go_simp
                  first
                    | (with_reducible refine hK _ ?_
                       clear hK K)
                    | (apply Exists.intro
                       with_reducible refine ⟨fun _ => ?_, hK _ ?_⟩
                       first | (go_at_call_of 31 x; exact cN _ _) | (go_at_call_of 21 A2; exact cI _ _)
                       clear hK K))
          refine wpQuiet_nil ?_
          intro _ hw'
          obtain ⟨p, rfl⟩ := hw'
          go_wp2_with fail
          go_ret
          rw [HR.out]
          exact ⟨rfl, hpol.below (below_regrown wc _ _) (Nat.le_refl _), bx.trans (.of_below ((below_regrown wc _ _).mono (by omega)))⟩
      · have E1 : (idxT (xs ++ [x]) x == (n2 : Int) - 1) = false := by simp [hix]
        have HR : Hid (addT xs ps [levelB, x] = (false, xs ++ [x], ps)) := Lib.hid (by simp only [addT_level, hnm, hlen2, E1, Bool.and_false, Bool.false_and])
        go_wp2_with fail
        refine wp_region_quiet_below (by kernel_rfl) (by kernel_rfl) ?_
        repeat (with_reducible refine wpQuiet_step (fun K hK => ?_)
                go_simp
                first
                  | (with_reducible refine hK _ ?_
                     clear hK K)
                  | (apply Exists.intro
                     with_reducible refine ⟨fun _ => ?_, hK _ ?_⟩
                     first | (go_at_call_of 31 x; exact cN _ _) | (go_at_call_of 21 A2; exact cI _ _)
                     clear hK K))
        refine wpQuiet_nil ?_
        intro _ hw'
        obtain ⟨p, rfl⟩ := hw'
        go_wp2_with fail
        go_ret
        rw [HR.out]
        exact ⟨rfl, hpol.below (below_regrown wc _ _) (Nat.le_refl _), bx.trans (.of_below ((below_regrown wc _ _).mono (by omega)))⟩
  go_region_law (refine step_app1 Tryd.elTexts rfl (.tmp 24) (.tmp 28) rfl rfl (by exact hX.alloc _) rfl (Blk.new' _ _ _ _ (by simp)) rfl (by simp [Value.oneCell']) (by simp only [maxLen]; omega) (by omega) (by simp; omega) ?_; intro A' c' w2 hX2 ho hmv; have hB2 := ((hB.alloc (.cells #[.string x] 9)).drew).only ho hAq; have f1 := hB2.frozen 0; have e1 : w2.cell? ⟨q, 0, none⟩ = some (.slice A n c) := hB2.cell 0)
  all_goals
    go_wp2_with fail
    go_meet
    refine ⟨⟨A', n + 1, _, B, m, d, ?_, hB2.set_ 0 _, ?_, ?_⟩, ?_, ?_⟩
    · have := ho.size
      simp [World.setCell] at this ⊢
      omega
    · have e0 : txCells (xs ++ [x]) = txCells xs ++ [.string x] := by simp [txCells]
      rw [e0]
      exact hX2.only (only_setCell w2 q 0 _) (fun a b ha hb => by injection hb with hb; rw [← hb]; exact hX2.blk_ne hB2 (by decide) a ha)
    · have hP2 := ((hP.alloc (.cells #[.string x] 9)).drew).only ho (hP.sep_ne hX (by decide))
      exact hP2.only (only_setCell w2 q 0 _) (fun a b ha hb => by injection hb with hb; rw [← hb]; exact hP2.blk_ne hB2 (by decide) a ha)
    · have hW2 := ((hown.alloc (.cells #[.string x] 9)).drew).only ho (fun a b ha hb => by
        injection ha with ha
        have := hAw b hb
        rw [← ha]; show w.heap.size ≠ _; omega)
      have hW3 := hW2.only (only_setCell w2 q 0 (.slice A' (n + 1) c')) (fun a b ha hb => by injection hb with hb; rw [← hb]; exact hW2.blk_ne hB2 (by decide) a ha)
      exact hW3.cell (j := 1) (u := .string x) rfl
    · have b1 : Below base w ((w1.alloc (.cells #[.string x] 9)).drew) := (bw.alloc (by omega) _).drew
      have b2 : Below base ((w1.alloc (.cells #[.string x] 9)).drew) w2 := ho.below (fun a ha => (hX.lt ha).1) (by have := b1.size; simp; omega)
      exact (Kept.of_below (b1.trans b2)).set_ 0 _

end Go.Proofs.YtofloedgclodnaaDoor
