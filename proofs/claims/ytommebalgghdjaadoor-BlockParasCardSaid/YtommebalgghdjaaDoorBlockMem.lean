/-
  Blocks in memory, and the parser that puts them: contracts of put, quotes and lists.
-/
import Derived.Test.YtommebalgghdjaaDoorMark6B
import Derived.Test.YtommebalgghdjaaDoorBlockSpec
import Derived.Test.YtommebalgghdjaaDoorStepApp
import Derived.Deep.DeepCutAuto
namespace Go.Proofs.YtommebalgghdjaaDoor
open Go.RowKit
set_option linter.unusedVariables false

def BlockT.cells (b : BlockT) : List Value := [.int .i64 b.kind, .int .i64 b.depth, .int .i64 b.n, .bool b.tight, .string (S b.text), .string (S b.info)]
def blkCells (l : List BlockT) : List Value := l.flatMap BlockT.cells
theorem blk_len (b : BlockT) : b.cells.length = 6 := rfl
theorem blks_length (l : List BlockT) : (blkCells l).length = l.length * 6 := flat_length _ 6 blk_len l
theorem blkCells_app (a b : List BlockT) : blkCells (a ++ b) = blkCells a ++ blkCells b := by simp [blkCells]
theorem blkCells_one (b : BlockT) : blkCells [b] = b.cells := by simp [blkCells]
theorem Tryd.infoBlock : (Tryd.prog.info? 28).map (fun i => (i.zero, i.size, i.bytes)) = some (some (.agg #[.int .i64 0, .int .i64 0, .int .i64 0, .bool false, .string ⟨#[]⟩, .string ⟨#[]⟩]), 6, 64) := by kernel_rfl
theorem Tryd.elBlocks : Elem Tryd.prog 25 28 6 64 := Elem.mk' Tryd.underlying25 Tryd.infoBlock rfl (by decide)
def BlockT.val (b : BlockT) : Value := .agg #[.int .i64 b.kind, .int .i64 b.depth, .int .i64 b.n, .bool b.tight, .string (S b.text), .string (S b.info)]

/-- a parser: its lines, how far it is, how deep, its blocks -/
structure PSt (w : World) (base g : Nat) (A : Option Addr) (n c : Nat) (at_ depth : Nat) (out : List BlockT) : Prop where
  le : base ≤ g
  size : base ≤ w.heap.size
  row : ∃ Ao co, Blk w g 44 #[.slice A n c, .int .i64 (at_ : Int), .int .i64 (depth : Int), .slice Ao out.length co] ∧ Own w base 28 6 Ao out.length co (blkCells out)
theorem PSt.below {w w' : World} {base g K n c at_ depth : Nat} {A : Option Addr} {out : List BlockT} (h : PSt w base g A n c at_ depth out) (hb : Below K w w') (hK : w.heap.size ≤ K) : PSt w' base g A n c at_ depth out := by
  obtain ⟨h1, h2, Ao, co, h3, h4⟩ := h
  exact ⟨h1, Nat.le_trans h2 hb.size, Ao, co, h3.below hb (by have := h3.lt; omega), h4.below hb hK⟩
theorem PSt.alloc {w : World} {base g n c at_ depth : Nat} {A : Option Addr} {out : List BlockT} (h : PSt w base g A n c at_ depth out) (o : Obj) : PSt (w.alloc o) base g A n c at_ depth out := by
  obtain ⟨h1, h2, Ao, co, h3, h4⟩ := h
  exact ⟨h1, by simp; omega, Ao, co, h3.alloc o, h4.alloc o⟩
theorem PSt.drewN {w : World} {base g n c at_ depth : Nat} {A : Option Addr} {out : List BlockT} (h : PSt w base g A n c at_ depth out) (k : Nat) : PSt (w.drewN k) base g A n c at_ depth out := by
  obtain ⟨h1, h2, Ao, co, h3, h4⟩ := h
  exact ⟨h1, h2, Ao, co, h3.drewN k, h4.drewN k⟩
theorem PSt.lt {w : World} {base g n c at_ depth : Nat} {A : Option Addr} {out : List BlockT} (h : PSt w base g A n c at_ depth out) : g < w.heap.size := by
  obtain ⟨_, _, _, _, h3, _⟩ := h
  exact h3.lt
theorem Own.setBlk {w : World} {base e size n c g t i : Nat} {A : Option Addr} {xs : List Value} {cs : Array Value} (h : Own w base e size A n c xs) (hb : Blk w g t cs) (hne : e ≠ t) (u : Value) : Own (w.setCell ⟨g, i, none⟩ u) base e size A n c xs :=
  h.only (only_setCell w g i u) (fun a b ha hb' => by
    injection hb' with hb'
    rw [← hb']
    exact h.blk_ne hb hne a ha)
/-- the parser goes on -/
theorem PSt.goto_ {w : World} {base g n c at_ depth : Nat} {A : Option Addr} {out : List BlockT} (h : PSt w base g A n c at_ depth out) (k : Nat) :
    PSt (w.setCell ⟨g, 1, none⟩ (.int .i64 (k : Int))) base g A n c k depth out ∧ Below base w (w.setCell ⟨g, 1, none⟩ (.int .i64 (k : Int))) := by
  obtain ⟨h1, h2, Ao, co, h3, h4⟩ := h
  exact ⟨⟨h1, by simp [World.setCell]; omega, Ao, co, h3.set_ 1 _, h4.setBlk h3 (by decide) _⟩, (Below.refl _ _).setCell (p := ⟨g, 1, none⟩) h1 _⟩
/-- texts' rows stay -/
def KeepsS (w w' : World) : Prop := ∀ base A n c (xs : List Value), Own w base 9 1 A n c xs → Own w' base 9 1 A n c xs

set_option maxHeartbeats 4000000 in
set_option maxRecDepth 100000 in
theorem put_any (b : BlockT) (base g : Nat) (A : Option Addr) (n c at_ depth : Nat) (out : List BlockT) (w : World) (h : PSt w base g A n c at_ depth out) (hN : out.length ≤ 1099511627776) :
    Calls Tryd.prog 46 #[.pointer (some ⟨g, 0, none⟩), b.val] w fun e w' => e = .returned (.tuple #[]) ∧ PSt w' base g A n c at_ depth (out ++ [{ b with depth := (depth : Int) }]) ∧ Below base w w' ∧ KeepsS w w' := by
  obtain ⟨h1, h2, Ao, co, hB, hO⟩ := h
  obtain ⟨kind, bd, bn, tight, text, info⟩ := b
  unfold BlockT.val
  simp only
  obtain ⟨T, hT⟩ : ∃ T, S text = T := ⟨_, rfl⟩
  obtain ⟨I, hI⟩ : ∃ I, S info = I := ⟨_, rfl⟩
  rw [hT, hI]
  have hgl := hB.lt
  have hBA := hB.alloc (.cells #[.int .i64 kind, .int .i64 bd, .int .i64 bn, .bool tight, .string T, .string I] 28)
  have BX : Blk (w.alloc (.cells #[.int .i64 kind, .int .i64 bd, .int .i64 bn, .bool tight, .string T, .string I] 28)) w.heap.size 28 #[.int .i64 kind, .int .i64 bd, .int .i64 bn, .bool tight, .string T, .string I] := Blk.new _ _ _
  have p2 : (w.alloc (.cells #[.int .i64 kind, .int .i64 bd, .int .i64 bn, .bool tight, .string T, .string I] 28)).cell? ⟨g, 0 + 2, none⟩ = some (.int .i64 (depth : Int)) := hBA.cell 2
  have x1 : (w.alloc (.cells #[.int .i64 kind, .int .i64 bd, .int .i64 bn, .bool tight, .string T, .string I] 28)).cell? ⟨w.heap.size, 0 + 1, none⟩ = some (.int .i64 bd) := BX.cell 1
  have f1 : (w.alloc (.cells #[.int .i64 kind, .int .i64 bd, .int .i64 bn, .bool tight, .string T, .string I] 28)).frozen? ⟨w.heap.size, 0 + 1, none⟩ = false := BX.frozen 1
  go_enter Tryd.func46, Tryd.ntmps46
  go_upto_region 2 with fail
  clear p2 x1 f1 BX hBA
  have hsz : w.heap.size < (w.alloc (.cells #[.int .i64 kind, .int .i64 (depth : Int), .int .i64 bn, .bool tight, .string T, .string I] 28)).heap.size := by simp
  have BX : Blk (w.alloc (.cells #[.int .i64 kind, .int .i64 (depth : Int), .int .i64 bn, .bool tight, .string T, .string I] 28)) w.heap.size 28 #[.int .i64 kind, .int .i64 (depth : Int), .int .i64 bn, .bool tight, .string T, .string I] := Blk.new _ _ _
  have hBW := hB.alloc (.cells #[.int .i64 kind, .int .i64 (depth : Int), .int .i64 bn, .bool tight, .string T, .string I] 28)
  have hOW := hO.alloc (.cells #[.int .i64 kind, .int .i64 (depth : Int), .int .i64 bn, .bool tight, .string T, .string I] 28)
  have hbW : Below base w (w.alloc (.cells #[.int .i64 kind, .int .i64 (depth : Int), .int .i64 bn, .bool tight, .string T, .string I] 28)) := (Below.refl _ _).alloc h2 _
  have hkW : KeepsS w (w.alloc (.cells #[.int .i64 kind, .int .i64 (depth : Int), .int .i64 bn, .bool tight, .string T, .string I] 28)) := fun _ _ _ _ _ h => h.alloc _
  have hcl : blkCells [⟨kind, (depth : Int), bn, tight, text, info⟩] = [.int .i64 kind, .int .i64 (depth : Int), .int .i64 bn, .bool tight, .string T, .string I] := by rw [← hT, ← hI]; rfl
  have HCL := Lib.hid hcl
  clear hcl hT hI
  generalize hws : w.heap.size = s0 at *
  generalize w.alloc (.cells #[.int .i64 kind, .int .i64 (depth : Int), .int .i64 bn, .bool tight, .string T, .string I] 28) = W at *
  obtain ⟨ol, hol⟩ : ∃ ol, out.length = ol := ⟨_, rfl⟩
  rw [hol] at hBW hOW hN
  have HOL := Lib.hid hol
  clear hol hB hO hws
  have hbs : base ≤ W.heap.size := by omega
  have p3 : W.cell? ⟨g, 0 + 3, none⟩ = some (.slice Ao ol co) := hBW.cell 3
  have y0 : W.cell? ⟨s0, 0, none⟩ = some (.int .i64 kind) := BX.cell 0
  have y1 : W.cell? ⟨s0, 0 + 1, none⟩ = some (.int .i64 (depth : Int)) := BX.cell 1
  have y2 : W.cell? ⟨s0, 0 + 2, none⟩ = some (.int .i64 bn) := BX.cell 2
  have y3 : W.cell? ⟨s0, 0 + 3, none⟩ = some (.bool tight) := BX.cell 3
  have y4 : W.cell? ⟨s0, 0 + 4, none⟩ = some (.string T) := BX.cell 4
  have y5 : W.cell? ⟨s0, 0 + 5, none⟩ = some (.string I) := BX.cell 5
  have hne := hOW.blk_ne hBW (by decide)
  have hgW := hBW.lt
  go_region_law (refine step_app1 Tryd.elBlocks rfl (.tmp 13) (.tmp 15) rfl rfl (by exact (hOW.alloc _).drew) rfl (Blk.new' _ _ _ _ (by simp)) rfl (by simp [Value.oneCell']) (by simp only [maxLen]; omega) (by omega) (by simp; omega) ?_; intro A' c' w3 hO3 ho hmv; have hB3 := ((hBW.alloc (.cells #[.int .i64 kind, .int .i64 (depth : Int), .int .i64 bn, .bool tight, .string T, .string I] 28)).drew).only ho hne; have z0 := hB3.frozen 3; have z1 : w3.cell? ⟨g, 3, none⟩ = some (.slice Ao ol co) := hB3.cell 3)
  all_goals
    go_wp2_with fail
    go_end0
    have ho' : Only (W.alloc (.cells #[.int .i64 kind, .int .i64 (depth : Int), .int .i64 bn, .bool tight, .string T, .string I] 28)) w3 Ao := ⟨ho.os, ho.tape, ho.output, ho.size, ho.block⟩
    have hb3 := hbW.trans (ho'.of_alloc.below (fun a ha => (hOW.lt ha).1) hbs)
    have hsz4 : W.heap.size ≤ w3.heap.size := Nat.le_trans (by simp) ho'.size
    refine ⟨rfl, ⟨h1, by simp [World.setCell]; omega, A', c', ?_, ?_⟩, hb3.setCell (p := ⟨g, 3, none⟩) h1 _, ?_⟩
    · rw [List.length_append, HOL.out]
      exact hB3.set_ 3 _
    · rw [List.length_append, HOL.out, blkCells_app, HCL.out]
      exact hO3.setBlk hB3 (by decide) _
    · intro b1 A1 n1 c1 xs hx
      have k1 := hkW _ _ _ _ _ hx
      have k2 := (k1.alloc (.cells #[.int .i64 kind, .int .i64 (depth : Int), .int .i64 bn, .bool tight, .string T, .string I] 28)).only ho' (k1.sep_ne hOW (by decide))
      exact k2.setBlk hB3 (by decide) _

set_option maxHeartbeats 1000000 in
set_option maxRecDepth 100000 in
theorem quotes_any (s : ByteArray) (base g : Nat) (A : Option Addr) (n c at_ depth : Nat) (out : List BlockT) (w : World) (h : PSt w base g A n c at_ depth out) (hs : s.size ≤ 1048576) :
    Calls Tryd.prog 48 #[.pointer (some ⟨g, 0, none⟩), .string s] w fun e w' => e = .returned (.bool (quotesT depth (L s))) ∧ Below w.heap.size w w' := by
  have hq := quote_any s w hs
  unfold quotesT
  obtain ⟨q, hqe⟩ : ∃ q, quoteT (L s) = q := ⟨_, rfl⟩
  rw [hqe] at hq ⊢
  have HQ := Lib.hid hq
  have hgl := h.lt
  obtain ⟨_, _, Ao, co, hB, _⟩ := h
  clear hq hqe
  cases q with
  | none =>
    go_enter Tryd.func48, Tryd.ntmps48
    go_wp2_with fail
    refine HQ.out.mono ?_
    rintro e w1 ⟨rfl, b1⟩
    unfold quoteV
    go_wp2_with fail
    go_ret
    exact ⟨rfl, b1⟩
  | some q =>
    go_enter Tryd.func48, Tryd.ntmps48
    go_wp2_with fail
    refine HQ.out.mono ?_
    rintro e w1 ⟨rfl, b1⟩
    unfold quoteV
    have e2 : w1.cell? ⟨g, 0 + 2, none⟩ = some (.int .i64 (depth : Int)) := (hB.below b1 hgl).cell 2
    go_wp2_with fail
    go_ret
    refine ⟨?_, b1⟩
    by_cases hd : depth < 12
    · rw [decide_eq_true hd]
      have : decide ((depth : Int) < 12) = true := decide_eq_true (by omega)
      simp [this]
    · rw [decide_eq_false hd]
      have : decide ((depth : Int) < 12) = false := decide_eq_false (by omega)
      simp [this]

set_option maxHeartbeats 1000000 in
set_option maxRecDepth 100000 in
theorem lists_any (s : ByteArray) (base g : Nat) (A : Option Addr) (n c at_ depth : Nat) (out : List BlockT) (w : World) (h : PSt w base g A n c at_ depth out) (hs : s.size ≤ 1048576) :
    Calls Tryd.prog 50 #[.pointer (some ⟨g, 0, none⟩), .string s] w fun e w' => e = .returned (.bool (listsT depth (L s))) ∧ Below w.heap.size w w' := by
  have hq := item_any s w hs
  unfold listsT
  obtain ⟨q, hqe⟩ : ∃ q, itemT (L s) = q := ⟨_, rfl⟩
  rw [hqe] at hq ⊢
  have HQ := Lib.hid hq
  have hgl := h.lt
  obtain ⟨_, _, Ao, co, hB, _⟩ := h
  clear hq hqe
  cases q with
  | none =>
    go_enter Tryd.func50, Tryd.ntmps50
    go_wp2_with fail
    refine HQ.out.mono ?_
    rintro e w1 ⟨rfl, b1⟩
    unfold itemV
    go_wp2_with fail
    go_ret
    exact ⟨rfl, b1⟩
  | some q =>
    obtain ⟨c1, v1, k1, r1⟩ := q
    go_enter Tryd.func50, Tryd.ntmps50
    go_wp2_with fail
    refine HQ.out.mono ?_
    rintro e w1 ⟨rfl, b1⟩
    unfold itemV
    have e2 : w1.cell? ⟨g, 0 + 2, none⟩ = some (.int .i64 (depth : Int)) := (hB.below b1 hgl).cell 2
    go_wp2_with fail
    go_ret
    refine ⟨?_, b1⟩
    by_cases hd : depth < 11
    · rw [decide_eq_true hd]
      have : decide ((depth : Int) < 11) = true := decide_eq_true (by omega)
      simp [this]
    · rw [decide_eq_false hd]
      have : decide ((depth : Int) < 11) = false := decide_eq_false (by omega)
      simp [this]
end Go.Proofs.YtommebalgghdjaaDoor
