/- Joined texts: Mem, Plain, LineLaw, BlankLaw, Bytes. -/
import Derived.WalkKit
import Derived.Laws.OwnMore
import Derived.Deep.AppendLies
import Derived.Deep.Draws
import Derived.Laws.Rows
import Derived.Maps.AppendAt
import Derived.RegionTactic
import Derived.OwnWalk
import Derived.Lib.Hide
import Derived.Deep.QuietTactic
import Derived.BigQuiet
import Derived.Deep.RegionWith
import Derived.StillTailTactics
import Derived.Deep.RegionHeld3
import Derived.Deep.LoopGhost
import Derived.ArgAppend
import Derived.Lib.SpaceUEq
import Derived.Lib.DecodeN
import Derived.Laws.RangeString
import Derived.Laws.RangeAny
import Derived.Lib.UnsafeStr
import Derived.Lib.Repeat
import Derived.Lib.SplitLaws
import Derived.Lib.CountLaws
import Derived.Lib.Split
import Derived.Lib.TrimByte
import Derived.Lib.SlTrimSet
import Derived.Laws.StructEq
/-
  Small laws on memory that the walks of this seat share: a slice that reads as a list, a block known whole, an append onto a row of the call's own. (Turned from the guide's worked blocks.)
-/
namespace Go.Proofs.YtgdnphmannbpgaaGreatDoor
open Go.RowKit

theorem block_of_add (a : Addr) (n : Nat) : (a.add n).block = a.block := by unfold Addr.add; split <;> rfl
theorem add_of_add (a : Addr) (i j : Nat) : (a.add i).add j = a.add (i + j) := by
  unfold Addr.add
  by_cases hi : i = 0 <;> by_cases hj : j = 0 <;> simp [hi, hj, Nat.add_assoc]

def Reads (w : World) (B size : Nat) (A : Option Addr) (n : Nat) (xs : List Value) : Prop :=
  xs.length = n * size ∧ (0 < n → ∃ ad, A = some ad ∧ ad.block < B ∧ ∀ j u, xs[j]? = some u → w.cell? (ad.add j) = some u)

section
variable {w w' : World} {B B' size n : Nat} {A : Option Addr} {xs : List Value}
theorem Reads.none_ : Reads w B size A 0 [] := ⟨by simp, fun h => absurd h (by omega)⟩
theorem Reads.at_ {k : Nat} (h : Reads w B 1 A n xs) (hk : k < n) : ∃ ad u, A = some ad ∧ ad.block < B ∧ xs[k]? = some u ∧ w.cell? (ad.add k) = some u := by
  obtain ⟨ad, e, hb, hc⟩ := h.2 (by omega)
  have hl : k < xs.length := by have := h.1; omega
  exact ⟨ad, xs[k], e, hb, List.getElem?_eq_getElem hl, hc k _ (List.getElem?_eq_getElem hl)⟩
theorem Reads.keep (h : Reads w B size A n xs) (hk : ∀ p : Addr, p.block < B → w'.cell? p = w.cell? p) : Reads w' B size A n xs :=
  ⟨h.1, fun hn => by
    obtain ⟨ad, e, hb, hc⟩ := h.2 hn
    exact ⟨ad, e, hb, fun j u hu => (hk _ (by rw [block_of_add]; exact hb)).trans (hc j u hu)⟩⟩
theorem Reads.more (h : Reads w B size A n xs) (hB : B ≤ B') : Reads w B' size A n xs :=
  ⟨h.1, fun hn => by
    obtain ⟨ad, e, hb, hc⟩ := h.2 hn
    exact ⟨ad, e, by omega, hc⟩⟩
theorem Reads.below (h : Reads w B size A n xs) (hb : Below B w w') : Reads w' B size A n xs := h.keep fun _ hp => hb.cell hp
theorem Reads.drew (h : Reads w B size A n xs) : Reads w.drew B size A n xs := h
theorem Reads.drewN (h : Reads w B size A n xs) (k : Nat) : Reads (w.drewN k) B size A n xs := h
theorem Reads.alloc (h : Reads w B size A n xs) (hB : B ≤ w.heap.size) (o : Obj) : Reads (w.alloc o) B size A n xs := h.keep fun p hp => World.cell?_alloc_lt w o p (by omega)
theorem Reads.setCell (h : Reads w B size A n xs) {p : Addr} (hB : B ≤ p.block) (u : Value) : Reads (w.setCell p u) B size A n xs :=
  h.keep fun q hq => World.cell?_setCell_other w p q u (fun e => by subst e; omega)
theorem Reads.grown (h : Reads w B size A n xs) {row : Option Nat} (hg : w.grownBy w' row) (hB : B ≤ w.heap.size) (hr : ∀ g, row = some g → B ≤ g) : Reads w' B size A n xs :=
  h.keep fun p hp => World.cell?_of_block (hg.block p.block (by omega) (fun e => by have := hr _ e.symm; omega))
theorem Reads.cut (h : Reads w B size A n xs) {k cap : Nat} (hk : k ≤ n) (hc : n ≤ cap) :
    Reads w B size (if cap = k then A else A.map (·.add (k * size))) (n - k) (xs.drop (k * size)) := by
  refine ⟨by rw [List.length_drop, h.1, Nat.sub_mul], fun hn => ?_⟩
  obtain ⟨ad, rfl, hb, hcell⟩ := h.2 (by omega)
  rw [if_neg (by omega)]
  refine ⟨ad.add (k * size), rfl, by rw [block_of_add]; exact hb, fun j u hu => ?_⟩
  rw [add_of_add]
  exact hcell _ u (by rw [← hu, List.getElem?_drop])
theorem Reads.of_own {base : Nat} {e : TypeId} {c : Nat} (h : w.ownsRow base e size (.slice A n c) n xs) : Reads w w.heap.size size A n xs := by
  refine ⟨h.1, fun hn => ?_⟩
  obtain ⟨g, cap, hv, _, hlt⟩ := h.form hn
  have hA : A = some ⟨g, 0, none⟩ := by injection hv
  subst hA
  exact ⟨_, rfl, hlt, h.cells (g := g) rfl⟩
end

def Blk (w : World) (g : Nat) (t : TypeId) (cs : Array Value) : Prop := w.heap[g]? = some (.cells cs t (0, 0))

section
variable {w w' : World} {g : Nat} {t : TypeId} {cs : Array Value}
theorem Blk.lt (h : Blk w g t cs) : g < w.heap.size := by
  rcases Nat.lt_or_ge g w.heap.size with hlt | hge
  · exact hlt
  · unfold Blk at h; rw [Array.getElem?_eq_none hge] at h; cases h
theorem Blk.cell (h : Blk w g t cs) (i : Nat) : w.cell? ⟨g, i, none⟩ = cs[i]? := cell_of_row w g i cs t (0, 0) h
theorem Blk.frozen (h : Blk w g t cs) (i : Nat) : w.frozen? ⟨g, i, none⟩ = false := by
  unfold Blk at h
  simp [World.frozen?, h]
theorem Blk.new (w : World) (t : TypeId) (cs : Array Value) : Blk (w.alloc (.cells cs t)) w.heap.size t cs := heap_alloc_new w _
theorem Blk.drew (h : Blk w g t cs) : Blk w.drew g t cs := h
theorem Blk.drewN (h : Blk w g t cs) (n : Nat) : Blk (w.drewN n) g t cs := h
theorem Blk.alloc (h : Blk w g t cs) (o : Obj) : Blk (w.alloc o) g t cs := (Below.heap_alloc w o g h.lt).trans h
theorem Blk.set_ (h : Blk w g t cs) (i : Nat) (u : Value) : Blk (w.setCell ⟨g, i, none⟩ u) g t (cs.setIfInBounds i u) := by
  unfold Blk at h ⊢
  simp [World.setCell, Array.getElem?_modify, h]
theorem Blk.far (h : Blk w g t cs) {p : Addr} (hp : g ≠ p.block) (u : Value) : Blk (w.setCell p u) g t cs := (Below.heap_setCell w p u g hp).trans h
theorem Blk.below {B : Nat} (h : Blk w g t cs) (hb : Below B w w') (hg : g < B) : Blk w' g t cs := (hb.block g hg).trans h
theorem Blk.grown {row : Option Nat} (h : Blk w g t cs) (hb : w.grownBy w' row) (hg : some g ≠ row) : Blk w' g t cs := (hb.block g h.lt hg).trans h
theorem Blk.ne_ {g' : Nat} {t' : TypeId} {cs' : Array Value} (h : Blk w g t cs) (h' : Blk w g' t' cs') (hne : t ≠ t') : g ≠ g' := by
  rintro rfl
  unfold Blk at h h'
  rw [h] at h'
  injection h' with h'
  injection h' with _ ht
  exact hne ht
theorem own_blk_ne {base : Nat} {e : TypeId} {size n : Nat} {v : Value} {xs : List Value} (h : w.ownsRow base e size v n xs) (hg : Blk w g t cs) (hne : e ≠ t) : v.ownBlock ≠ some g := by
  rcases h.2 with ⟨rfl, _⟩ | ⟨g', cap, cur, rfl, _, hh, _⟩
  · simp [Value.ownBlock]
  · intro he
    have : g' = g := by simpa [Value.ownBlock] using he
    subst this
    exact Blk.ne_ (t := e) hh hg hne rfl
end

section
variable {P : Program} (w : World)

theorem run_append_of_nil (base : Nat) (t ty e : TypeId) (i : TypeInfo) (size : Nat) (ht : P.underlying t = some (.slice e)) (hi : P.info? e = some i)
    (v : Value) (n : Nat) (xs : List Value) (hown : w.ownsRow base e size v n xs) (c : Nat) : (Builtin.append_ #[t, t] ty #[v, .slice none 0 c]).run P w = .ok v w := by
  rcases hown.2 with ⟨rfl, rfl⟩ | ⟨g, cap, cur, rfl, _, _, hnc, _⟩
  · simp [Builtin.append_, run_underlying ht, sizeOf, typeInfo, hi, Builtin.lenOf, Builtin.firstCells]
  · simp [Builtin.append_, run_underlying ht, sizeOf, typeInfo, hi, Builtin.lenOf, Builtin.firstCells, hnc, storeCells]

theorem run_append_any (base : Nat) (t ty e : TypeId) (i : TypeInfo) (z : Value) (size bytes : Nat) (ht : P.underlying t = some (.slice e)) (hi : P.info? e = some i) (hz : i.zero = some z)
    (hsize : i.size = size) (hby : i.bytes = bytes) (hzs : z.cells.size = size) (hsz : 0 < size)
    (v : Value) (n : Nat) (xs : List Value) (hown : w.ownsRow base e size v n xs)
    (B : Nat) (A : Option Addr) (m c : Nat) (news : List Value) (hr : Reads w B size A m news) (h1 : ∀ u ∈ news, u.oneCell' = true)
    (h63 : n + m ≤ maxLen) (hbytes : (n + m) * bytes ≤ 140737488355328) (hbase : base ≤ w.heap.size) :
    ∃ v' w', (Builtin.append_ #[t, t] ty #[v, .slice A m c]).run P w = .ok v' w' ∧ w'.ownsRow base e size v' (n + m) (xs ++ news) ∧ w.grownBy w' v.ownBlock ∧
      (v'.ownBlock = v.ownBlock ∨ v'.ownBlock = some w.heap.size) := by
  rcases A with _ | ad
  · have hm : m = 0 := by
      rcases Nat.eq_zero_or_pos m with h0 | h0
      · exact h0
      · obtain ⟨ad, h, _⟩ := hr.2 h0
        cases h
    subst hm
    have hn : news = [] := List.eq_nil_of_length_eq_zero (by simpa using hr.1)
    subst hn
    exact ⟨v, w, run_append_of_nil w base t ty e i size ht hi v n xs hown c, by simpa using hown, World.grownBy.refl w _, .inl rfl⟩
  · have hcells : ∀ j u, news[j]? = some u → w.cell? (ad.add j) = some u := by
      intro j u hu
      rcases Nat.eq_zero_or_pos m with h0 | h0
      · subst h0
        have hn : news = [] := List.eq_nil_of_length_eq_zero (by simpa using hr.1)
        subst hn
        simp at hu
      · obtain ⟨ad', h, _, hc⟩ := hr.2 h0
        injection h with h
        subst h
        exact hc j u hu
    obtain ⟨v', w', hrun, h2, h3, _, h5⟩ := run_append_own_at (P := P) w base t ty e i z size bytes ht hi hz hsize hby hzs hsz v n xs hown ad m c news hr.1 hcells h1 h63 hbytes hbase
    exact ⟨v', w', hrun, h2, h3, h5⟩

theorem wp_append_any {o : Oper} {a : Act} {K : Act → World → Prop} {Q : Exit → Act → World → Prop} (s x : Operand) (t : TypeId)
    (ho : o.op = .call { callee := .builtin .append, args := #[s, x], argTypes := #[t, t] })
    (base : Nat) (e : TypeId) (i : TypeInfo) (z : Value) (size bytes : Nat) (ht : P.underlying t = some (.slice e)) (hi : P.info? e = some i) (hz : i.zero = some z)
    (hsize : i.size = size) (hby : i.bytes = bytes) (hzs : z.cells.size = size) (hsz : 0 < size)
    (v : Value) (n : Nat) (xs : List Value) (hs : a.eval s = v) (hown : w.ownsRow base e size v n xs)
    (B : Nat) (A : Option Addr) (m c : Nat) (news : List Value) (hx : a.eval x = .slice A m c) (hr : Reads w B size A m news) (h1 : ∀ u ∈ news, u.oneCell' = true)
    (h63 : n + m ≤ maxLen) (hbytes : (n + m) * bytes ≤ 140737488355328) (hbase : base ≤ w.heap.size)
    (h : ∀ v' w', w'.ownsRow base e size v' (n + m) (xs ++ news) → w.grownBy w' v.ownBlock → (v'.ownBlock = v.ownBlock ∨ v'.ownBlock = some w.heap.size) → K (a.put o.dst v') w') : o.wp P a w K Q := by
  obtain ⟨v', w', hrun, h2, h3, h4⟩ := run_append_any (P := P) w base t o.type e i z size bytes ht hi hz hsize hby hzs hsz v n xs hown B A m c news hr h1 h63 hbytes hbase
  unfold Oper.wp execOp
  simp only [ho, resolve, invoke, builtin, Sem.run_bind, Sem.run_pure, Result.andThen_ok, List.map_toArray, List.map_cons, List.map_nil, hs, hx, hrun]
  exact h v' w' h2 h3 h4

theorem wpList_append_any {ops : Array Oper} {rest : List Oper} {o : Oper} {a : Act} {Q : Exit → Act → World → Prop} (hgd : o.guard = none) (s x : Operand) (t : TypeId)
    (ho : o.op = .call { callee := .builtin .append, args := #[s, x], argTypes := #[t, t] })
    (base : Nat) (e : TypeId) (i : TypeInfo) (z : Value) (size bytes : Nat) (ht : P.underlying t = some (.slice e)) (hi : P.info? e = some i) (hz : i.zero = some z)
    (hsize : i.size = size) (hby : i.bytes = bytes) (hzs : z.cells.size = size) (hsz : 0 < size)
    (v : Value) (n : Nat) (xs : List Value) (hs : a.eval s = v) (hown : w.ownsRow base e size v n xs)
    (B : Nat) (A : Option Addr) (m c : Nat) (news : List Value) (hx : a.eval x = .slice A m c) (hr : Reads w B size A m news) (h1 : ∀ u ∈ news, u.oneCell' = true)
    (h63 : n + m ≤ maxLen) (hbytes : (n + m) * bytes ≤ 140737488355328) (hbase : base ≤ w.heap.size)
    (h : ∀ v' w', w'.ownsRow base e size v' (n + m) (xs ++ news) → w.grownBy w' v.ownBlock → (v'.ownBlock = v.ownBlock ∨ v'.ownBlock = some w.heap.size) → wpList P ops Q rest (a.put o.dst v') w') : wpList P ops Q (o :: rest) a w :=
  wpList_plain hgd fun _ hK => wp_append_any w s x t ho base e i z size bytes ht hi hz hsize hby hzs hsz v n xs hs hown B A m c news hx hr h1 h63 hbytes hbase fun v' w' h2 h3 h4 => hK _ _ (h v' w' h2 h3 h4)

theorem step_append_any {ops : Array Oper} {o : Oper} {a : Act} {K : Act → World → Prop} {Q : Exit → Act → World → Prop} {E : Prop} (hgd : o.guard = none) (s x : Operand) (t : TypeId)
    (ho : o.op = .call { callee := .builtin .append, args := #[s, x], argTypes := #[t, t] })
    (base : Nat) (e : TypeId) (i : TypeInfo) (z : Value) (size bytes : Nat) (ht : P.underlying t = some (.slice e)) (hi : P.info? e = some i) (hz : i.zero = some z)
    (hsize : i.size = size) (hby : i.bytes = bytes) (hzs : z.cells.size = size) (hsz : 0 < size)
    (v : Value) (n : Nat) (xs : List Value) (hs : a.eval s = v) (hown : w.ownsRow base e size v n xs)
    (B : Nat) (A : Option Addr) (m c : Nat) (news : List Value) (hx : a.eval x = .slice A m c) (hr : Reads w B size A m news) (h1 : ∀ u ∈ news, u.oneCell' = true)
    (h63 : n + m ≤ maxLen) (hbytes : (n + m) * bytes ≤ 140737488355328) (hbase : base ≤ w.heap.size)
    (h : ∀ v' w', w'.ownsRow base e size v' (n + m) (xs ++ news) → w.grownBy w' v.ownBlock → (v'.ownBlock = v.ownBlock ∨ v'.ownBlock = some w.heap.size) → K (a.put o.dst v') w') :
    if Region.wanted o (yielded ops a.tmps) = true then Oper.wp P o a w K Q else E := by
  have hw : Region.wanted o (yielded ops a.tmps) = true := by simp [Region.wanted, hgd]
  rw [if_pos hw]
  exact wp_append_any w s x t ho base e i z size bytes ht hi hz hsize hby hzs hsz v n xs hs hown B A m c news hx hr h1 h63 hbytes hbase h
end

/-! ## own rows, their slices written out -/

/-- what is known of a slice type and its elements -/
structure Elem (P : Program) (t e : TypeId) (size bytes : Nat) : Prop where
  und : P.underlying t = some (.slice e)
  info : ∃ i z, P.info? e = some i ∧ i.zero = some z ∧ i.size = size ∧ i.bytes = bytes ∧ z.cells.size = size
  pos : 0 < size

theorem Elem.mk' {P : Program} {t e : TypeId} {z : Value} {size bytes : Nat} (hu : P.underlying t = some (.slice e))
    (h : (P.info? e).map (fun i => (i.zero, i.size, i.bytes)) = some (some z, size, bytes)) (hz : z.cells.size = size) (hp : 0 < size) : Elem P t e size bytes := by
  obtain ⟨i, h1, h2, h3, h4⟩ := info_parts h
  exact ⟨hu, ⟨i, z, h1, h2, h3, h4, hz⟩, hp⟩

def Own (w : World) (base : Nat) (e : TypeId) (size : Nat) (A : Option Addr) (n c : Nat) (xs : List Value) : Prop := w.ownsRow base e size (.slice A n c) n xs
def Only (w w' : World) (A : Option Addr) : Prop := w.grownBy w' (A.map (·.block))
def Moved (w : World) (A A' : Option Addr) : Prop := A'.map (·.block) = A.map (·.block) ∨ A'.map (·.block) = some w.heap.size
def Sep (A B : Option Addr) : Prop := ∀ a b, A = some a → B = some b → a.block ≠ b.block

theorem ownBlock_slice (A : Option Addr) (n c : Nat) : (Value.slice A n c).ownBlock = A.map (·.block) := by cases A <;> rfl

theorem below_drewN' {B : Nat} {a w : World} (h : Below B a w) (n : Nat) : Below B a (w.drewN n) := ⟨h.os, h.tape, h.output, h.size, h.block⟩
theorem below_of_drewN {B : Nat} {a w : World} {n : Nat} (h : Below B (a.drewN n) w) : Below B a w := ⟨h.os, h.tape, h.output, h.size, h.block⟩
theorem below_of_drew {B : Nat} {a w : World} (h : Below B a.drew w) : Below B a w := ⟨h.os, h.tape, h.output, h.size, h.block⟩

section
variable {w w' w'' : World} {base e size n c : Nat} {A A' B : Option Addr} {xs : List Value}

theorem Sep.symm (h : Sep A B) : Sep B A := fun a b ha hb e => h b a hb ha e.symm
theorem Sep.none_l : Sep none B := fun _ _ h => by cases h
theorem Sep.none_r : Sep A none := fun _ _ _ h => by cases h

theorem Own.nil (w : World) (base e size : Nat) : Own w base e size none 0 0 [] := World.ownsRow_nil w base e size
theorem Own.len (h : Own w base e size A n c xs) : xs.length = n * size := h.1
theorem Own.lt (h : Own w base e size A n c xs) {a : Addr} (ha : A = some a) : base ≤ a.block ∧ a.block < w.heap.size := by
  subst ha
  exact World.ownsRow.lt h a.block rfl
theorem Own.some_ (h : Own w base e size A n c xs) (hn : 0 < n) : ∃ g, A = some ⟨g, 0, none⟩ ∧ base ≤ g ∧ g < w.heap.size := by
  rcases h.2 with ⟨_, h0⟩ | ⟨g, cap, cur, hv, hb, hh, _⟩
  · omega
  · injection hv with hv
    exact ⟨g, hv, hb, (Array.getElem?_eq_some_iff.1 hh).1⟩
theorem Own.cap (h : Own w base e size A n c xs) : n ≤ c := by
  rcases h.2 with ⟨h0, hn⟩ | ⟨g, cap, cur, hv, hb, hh, hnc, _⟩
  · omega
  · injection hv with _ _ h3; rw [h3]; exact hnc
theorem Own.head (h : Own w base e size A n c xs) {a : Addr} (ha : A = some a) : a = ⟨a.block, 0, none⟩ := by
  rcases h.2 with ⟨h0, _⟩ | ⟨g, cap, cur, hv, _⟩
  · injection h0 with h0; rw [h0] at ha; cases ha
  · injection hv with hv; rw [hv] at ha; injection ha with ha; rw [← ha]
theorem Own.cell {g : Nat} (h : Own w base e size (some ⟨g, 0, none⟩) n c xs) {j : Nat} {u : Value} (hu : xs[j]? = some u) : w.cell? ⟨g, j, none⟩ = some u := by
  have hj : j < n * size := by rw [← h.len]; exact (List.getElem?_eq_some_iff.1 hu).1
  rw [World.ownsRow.cellAt h j hj, hu]
theorem Own.frozen {g : Nat} (h : Own w base e size (some ⟨g, 0, none⟩) n c xs) (j : Nat) : w.frozen? ⟨g, j, none⟩ = false := World.ownsRow.frozenAt h j
theorem Own.alloc (h : Own w base e size A n c xs) (o : Obj) : Own (w.alloc o) base e size A n c xs := World.ownsRow.alloc h o
theorem Own.drew (h : Own w base e size A n c xs) : Own w.drew base e size A n c xs := h
theorem Own.drewN (h : Own w base e size A n c xs) (k : Nat) : Own (w.drewN k) base e size A n c xs := h
theorem Own.only (h : Own w base e size A n c xs) (ho : Only w w' B) (hs : Sep A B) : Own w' base e size A n c xs := by
  refine World.ownsRow.kept h ho ?_
  rw [ownBlock_slice]
  cases A with
  | none => exact .inl rfl
  | some a =>
    refine .inr ?_
    cases B with
    | none => simp
    | some b => simpa using hs a b rfl rfl
theorem Own.below {K : Nat} (h : Own w base e size A n c xs) (hb : Below K w w') (hK : w.heap.size ≤ K) : Own w' base e size A n c xs := by
  refine ⟨h.1, ?_⟩
  rcases h.2 with hn | ⟨g, cap, cur, hv, hb', hh, r⟩
  · exact .inl hn
  · refine .inr ⟨g, cap, cur, hv, hb', ?_, r⟩
    rw [hb.block g (Nat.lt_of_lt_of_le (Array.getElem?_eq_some_iff.1 hh).1 hK)]
    exact hh
theorem Own.base_le {base' : Nat} (h : Own w base e size A n c xs) (hb : base' ≤ base) : Own w base' e size A n c xs := by
  refine ⟨h.1, ?_⟩
  rcases h.2 with hn | ⟨g, cap, cur, hv, hb', hh, r⟩
  · exact .inl hn
  · exact .inr ⟨g, cap, cur, hv, Nat.le_trans hb hb', hh, r⟩
theorem Own.reads (h : Own w base e size A n c xs) : Reads w w.heap.size size A n xs := Reads.of_own h
theorem Own.sep_ne {base' e' size' n' c' : Nat} {ys : List Value} (h : Own w base e size A n c xs) (k : Own w base' e' size' B n' c' ys) (hne : e ≠ e') : Sep A B := by
  intro a b ha hb heq
  subst ha; subst hb
  rcases h.2 with ⟨h0, _⟩ | ⟨g, cap, cur, hv, _, hh, _⟩
  · cases h0
  rcases k.2 with ⟨k0, _⟩ | ⟨g', cap', cur', kv, _, kh, _⟩
  · cases k0
  injection hv with hv; injection hv with hv; subst hv
  injection kv with kv; injection kv with kv; subst kv
  simp only at heq
  subst heq
  rw [hh] at kh
  injection kh with kh
  injection kh with _ kh
  exact hne kh
/-- a store into the row -/
theorem Own.stored {g : Nat} (h : Own w base e size (some ⟨g, 0, none⟩) n c xs) (j : Nat) (u : Value) : Own (w.setCell ⟨g, j, none⟩ u) base e size (some ⟨g, 0, none⟩) n c (xs.set j u) := (World.ownsRow.stored h j u).1
theorem only_setCell (w : World) (g j : Nat) (u : Value) : Only w (w.setCell ⟨g, j, none⟩ u) (some ⟨g, 0, none⟩) :=
  ⟨rfl, rfl, rfl, by simp [World.setCell], fun k _ hne => Below.heap_setCell _ _ _ _ (fun e => hne (by rw [e]; rfl))⟩
/-- a shorter cut of the row -/
theorem Own.take {m : Nat} (h : Own w base e size A n c xs) (hm : m ≤ n) : Own w base e size A m c (xs.take (m * size)) := by
  have hms : m * size ≤ n * size := Nat.mul_le_mul_right _ hm
  refine ⟨by rw [List.length_take, h.1]; omega, ?_⟩
  rcases h.2 with ⟨h0, hn⟩ | ⟨g, cap, cur, hv, hb, hh, hnc, hcm, hsz, ht⟩
  · injection h0 with h1 h2 h3
    subst h1; subst h3
    have : m = 0 := by omega
    subst this
    exact .inl ⟨rfl, rfl⟩
  · injection hv with h1 h2 h3
    subst h1; subst h3
    refine .inr ⟨g, c, cur, rfl, hb, hh, by omega, hcm, hsz, ?_⟩
    rw [← ht, List.take_take, Nat.min_eq_left hms]
theorem Only.refl (w : World) (A : Option Addr) : Only w w A := World.grownBy.refl w _
theorem Only.trans (h : Only w w' A) (k : Only w' w'' A) : Only w w'' A := World.grownBy.trans h k
theorem Only.below {K : Nat} (h : Only w w' A) (hA : ∀ a, A = some a → K ≤ a.block) (hK : K ≤ w.heap.size) : Below K w w' :=
  (Below.refl _ _).grown h hK (fun k hk => by
    cases A with
    | none => cases hk
    | some a => injection hk with hk; subst hk; exact hA a rfl)
theorem Only.of_alloc {o : Obj} (h : Only (w.alloc o) w' A) : Only w w' A :=
  ⟨h.os, h.tape, h.output, Nat.le_trans (by simp) h.size, fun k hk hne => (h.block k (by simp; omega) hne).trans (Below.heap_alloc w o k hk)⟩
theorem Sep.moved {K : Nat} (hs : Sep A B) (hm : Moved w A A') (hB : ∀ b, B = some b → b.block < K) (hK : K ≤ w.heap.size) : Sep A' B := by
  intro a b ha hb
  subst ha; subst hb
  rcases hm with hm | hm
  · cases A with
    | none => cases hm
    | some a0 => injection hm with hm; have hm : a.block = a0.block := hm; rw [hm]; exact hs a0 b rfl rfl
  · injection hm with hm
    have hm : a.block = _ := hm
    rw [hm]
    have := hB b rfl
    omega
theorem Moved.le {K : Nat} (hm : Moved w A A') (hA : ∀ a, A = some a → K ≤ a.block) (hK : K ≤ w.heap.size) : ∀ a, A' = some a → K ≤ a.block := by
  intro a ha
  subst ha
  rcases hm with hm | hm
  · cases A with
    | none => cases hm
    | some a0 => injection hm with hm; have hm : a.block = a0.block := hm; rw [hm]; exact hA a0 rfl
  · injection hm with hm; have hm : a.block = _ := hm; rw [hm]; exact hK

theorem slice_of_own {v : Value} (h : w.ownsRow base e size v n xs) : ∃ A c, v = .slice A n c := by
  rcases h.2 with ⟨h0, hn⟩ | ⟨g, cap, cur, hv, _⟩
  · subst hn; exact ⟨_, _, h0⟩
  · exact ⟨_, _, hv⟩
end

theorem Blk.new' (w : World) (t : TypeId) (cs : Array Value) (g : Nat) (h : w.heap.size = g) : Blk (w.alloc (.cells cs t)) g t cs := by subst h; exact Blk.new w t cs
theorem Blk.only {w w' : World} {g : Nat} {t : TypeId} {cs : Array Value} {A : Option Addr} (h : Blk w g t cs) (ho : Only w w' A) (hne : ∀ a, A = some a → a.block ≠ g) : Blk w' g t cs := by
  refine Blk.grown h ho ?_
  cases A with
  | none => simp
  | some a => intro e; injection e with e; exact hne a rfl e.symm
theorem add_field (a : Addr) (i j : Nat) (hj : j ≠ 0) : (⟨(a.add i).block, (a.add i).off + j, none⟩ : Addr) = a.add (i + j) := by
  rw [← add_of_add]
  exact (if_neg hj).symm
/-- an element of several cells, as the walk reads it -/
theorem Reads.elem {w : World} {B size n : Nat} {A : Option Addr} {xs : List Value} (h : Reads w B size A n xs) {k : Nat} (hk : k < n) : ∃ ad, A = some ad ∧ ad.block < B ∧
    (∀ u, xs[k * size]? = some u → w.cell? (ad.add (k * size)) = some u) ∧
    ∀ j u, j ≠ 0 → xs[k * size + j]? = some u → w.cell? ⟨(ad.add (k * size)).block, (ad.add (k * size)).off + j, none⟩ = some u := by
  obtain ⟨ad, rfl, hb, hc⟩ := h.2 (by omega)
  exact ⟨ad, rfl, hb, fun u hu => hc _ u hu, fun j u hj hu => by rw [add_field _ _ _ hj]; exact hc _ u hu⟩

section
variable {α : Type} (f : α → List Value) (sz : Nat)
theorem flat_length (hf : ∀ x, (f x).length = sz) (l : List α) : (l.flatMap f).length = l.length * sz := by
  induction l with
  | nil => simp
  | cons x l ih => rw [List.flatMap_cons, List.length_append, hf, ih, List.length_cons, Nat.add_mul, Nat.one_mul, Nat.add_comm]
theorem flat_get (hf : ∀ x, (f x).length = sz) (l : List α) (k j : Nat) (hj : j < sz) {x : α} (hx : l[k]? = some x) : (l.flatMap f)[k * sz + j]? = (f x)[j]? := by
  induction l generalizing k with
  | nil => simp at hx
  | cons y l ih =>
    have hy := hf y
    rw [List.flatMap_cons]
    rcases k with _ | k
    · simp at hx; subst hx
      rw [List.getElem?_append_left (by omega)]; simp
    · have hk : (k + 1) * sz = k * sz + sz := by rw [Nat.add_mul, Nat.one_mul]
      rw [List.getElem?_append_right (by omega), hy, show (k + 1) * sz + j - sz = k * sz + j by omega]
      exact ih k (by simpa using hx)
theorem flat_set (hf : ∀ x, (f x).length = sz) (l : List α) (k j : Nat) (hj : j < sz) {x x' : α} {v : Value} (hx : l[k]? = some x) (hv : f x' = (f x).set j v) : (l.flatMap f).set (k * sz + j) v = (l.set k x').flatMap f := by
  induction l generalizing k with
  | nil => simp at hx
  | cons y l ih =>
    have hy := hf y
    rw [List.flatMap_cons]
    rcases k with _ | k
    · simp at hx; subst hx
      rw [List.set_append_left _ _ (by omega)]
      simp [hv]
    · have hk : (k + 1) * sz = k * sz + sz := by rw [Nat.add_mul, Nat.one_mul]
      rw [List.set_append_right _ _ (by omega), hy, show (k + 1) * sz + j - sz = k * sz + j by omega, ih k (by simpa using hx)]
      simp
end

/-- a slice of integers that came in, as the row's frame opens it -/
def IsRow (k : IntKind) (w : World) (a : Option Addr) (len cap : Nat) (zs : List Int) : Prop :=
  (a = none ∧ len = 0 ∧ cap = 0 ∧ zs = []) ∨
  ∃ x, a = some x ∧ len ≤ cap ∧ cap ≤ maxLen ∧ zs.length = cap ∧ (∀ i, i < zs.length → w.cell? (x.add i) = some (.int k (zs.getD i 0))) ∧ ∀ n ∈ zs, (Lit.int k n).wf = true
theorem IsRow.reads {k : IntKind} {w : World} {a : Option Addr} {len cap : Nat} {zs : List Int} (h : IsRow k w a len cap zs) : Reads w w.heap.size 1 a len ((zs.take len).map (Value.int k)) := by
  rcases h with ⟨rfl, rfl, rfl, rfl⟩ | ⟨x, rfl, h1, h2, h3, h4, _⟩
  · exact Reads.none_
  · refine ⟨by simp; omega, fun h => ⟨x, rfl, ?_, fun j u hu => ?_⟩⟩
    · have := World.block_lt_of_cell? w _ (h4 0 (by omega))
      simpa [Addr.add] using this
    · simp only [List.getElem?_map, List.getElem?_take] at hu
      split at hu
      · rename_i hj
        have hj' : j < zs.length := by omega
        rw [List.getElem?_eq_getElem hj'] at hu
        simp only [Option.map_some, Option.some.injEq] at hu
        rw [h4 j hj', ← hu, List.getD_eq_getElem?_getD, List.getElem?_eq_getElem hj']
        rfl
      · cases hu

/-- 'append(s, x...)' onto an own row, the source wherever it lies -/
theorem wpList_app {P : Program} {w : World} {ops : Array Oper} {rest : List Oper} {o : Oper} {a : Act} {Q : Exit → Act → World → Prop} {t e size bytes : Nat} (E : Elem P t e size bytes) (hgd : o.guard = none) (s x : Operand)
    (ho : o.op = .call { callee := .builtin .append, args := #[s, x], argTypes := #[t, t] })
    {base : Nat} {A : Option Addr} {n c : Nat} {xs : List Value} (hs : a.eval s = .slice A n c) (hown : Own w base e size A n c xs)
    {K : Nat} {B : Option Addr} {m d : Nat} {news : List Value} (hx : a.eval x = .slice B m d) (hr : Reads w K size B m news) (h1 : ∀ u ∈ news, u.oneCell' = true)
    (h63 : n + m ≤ maxLen) (hbytes : (n + m) * bytes ≤ 140737488355328) (hbase : base ≤ w.heap.size)
    (h : ∀ A' c' w', Own w' base e size A' (n + m) c' (xs ++ news) → Only w w' A → Moved w A A' → wpList P ops Q rest (a.put o.dst (.slice A' (n + m) c')) w') : wpList P ops Q (o :: rest) a w := by
  obtain ⟨i, z, hi, hz, hsize, hby, hzs⟩ := E.info
  refine wpList_append_any w hgd s x t ho base e i z size bytes E.und hi hz hsize hby hzs E.pos _ n xs hs hown K B m d news hx hr h1 h63 hbytes hbase (fun v' w' h2 h3 h4 => ?_)
  obtain ⟨A', c', rfl⟩ := slice_of_own h2
  rw [ownBlock_slice] at h3 h4
  rw [ownBlock_slice] at h4
  exact h A' c' w' h2 h3 h4

/-- 'append(s, x)' of one element: it lies in a block of its own -/
theorem wpList_app1 {P : Program} {w : World} {ops : Array Oper} {rest : List Oper} {o : Oper} {a : Act} {Q : Exit → Act → World → Prop} {t e size bytes : Nat} (E : Elem P t e size bytes) (hgd : o.guard = none) (s x : Operand)
    (ho : o.op = .call { callee := .builtin .append, args := #[s, x], argTypes := #[t, t] })
    {base : Nat} {A : Option Addr} {n c : Nat} {xs : List Value} (hs : a.eval s = .slice A n c) (hown : Own w base e size A n c xs)
    {g : Nat} {cs : Array Value} (hx : a.eval x = .slice (some ⟨g, 0, none⟩) 1 1) (hg : Blk w g e cs) (hcs : cs.size = size) (h1 : ∀ u ∈ cs.toList, u.oneCell' = true)
    (h63 : n + 1 ≤ maxLen) (hbytes : (n + 1) * bytes ≤ 140737488355328) (hbase : base ≤ w.heap.size)
    (h : ∀ A' c' w', Own w' base e size A' (n + 1) c' (xs ++ cs.toList) → Only w w' A → Moved w A A' → wpList P ops Q rest (a.put o.dst (.slice A' (n + 1) c')) w') : wpList P ops Q (o :: rest) a w := by
  refine wpList_app E hgd s x ho hs hown (K := w.heap.size) (news := cs.toList) hx ⟨by simp [hcs], fun _ => ⟨_, rfl, hg.lt, fun j u hu => ?_⟩⟩ h1 h63 hbytes hbase h
  have : (⟨g, 0, none⟩ : Addr).add j = ⟨g, j, none⟩ := by unfold Addr.add; split <;> simp_all
  rw [this, hg.cell j]
  simpa using hu
end Go.Proofs.YtgdnphmannbpgaaGreatDoor
/-
  Plain laws on strings as lists of bytes, and on what a range over a string meets.
-/
namespace Go.Proofs.YtgdnphmannbpgaaGreatDoor

/-- a string of bytes, and the bytes of a string -/
def S (l : List UInt8) : ByteArray := ⟨l.toArray⟩
def L (s : ByteArray) : List UInt8 := s.data.toList

@[simp] theorem L_S (l : List UInt8) : L (S l) = l := rfl
@[simp] theorem S_L (s : ByteArray) : S (L s) = s := rfl
@[simp] theorem length_L (s : ByteArray) : (L s).length = s.size := rfl
@[simp] theorem size_S (l : List UInt8) : (S l).size = l.length := by simp [S, ByteArray.size]
theorem L_inj {s t : ByteArray} (h : L s = L t) : s = t := by rw [← S_L s, h, S_L]
theorem L_append (s t : ByteArray) : L (s ++ t) = L s ++ L t := by simp [L]
theorem L_extract (s : ByteArray) (a b : Nat) : L (s.extract a b) = ((L s).take b).drop a := by
  simp [L, ByteArray.extract, ByteArray.copySlice, List.drop_take]
theorem append_S (s : ByteArray) (l : List UInt8) : s ++ S l = S (L s ++ l) := L_inj (by rw [L_append, L_S, L_S])
theorem S_append (l : List UInt8) (s : ByteArray) : S l ++ s = S (l ++ L s) := L_inj (by rw [L_append, L_S, L_S])
theorem S_lit (a : Array UInt8) : (⟨a⟩ : ByteArray) = S a.toList := by simp [S]

@[simp] theorem size_lit (a : Array UInt8) : (⟨a⟩ : ByteArray).size = a.size := rfl
theorem L_lit (a : Array UInt8) : L ⟨a⟩ = a.toList := rfl
theorem get_L (s : ByteArray) (i : Nat) (h : i < s.size) : s[i] = (L s)[i]'(by simpa using h) := rfl

theorem repeatL_one (b : UInt8) : ∀ n, Lib.repeatL [b] n = List.replicate n b
  | 0 => rfl
  | n + 1 => by rw [Lib.repeatL, repeatL_one b n]; rfl
theorem decode_rep {n : Nat} {b : UInt8} (hb : b.toNat < 128) (pos : Nat) (h : pos < n) : Utf8.decode (S (List.replicate n b)) pos = (b.toNat, 1) := by
  have hp : pos < (S (List.replicate n b)).size := by simpa using h
  have hg : (S (List.replicate n b))[pos]'hp = b := by rw [get_L]; simp
  rw [decode_ascii _ pos hp (by rw [hg]; exact hb), hg]

/-- what stands at a place: an ASCII byte is its own rune; else all bytes of the rune are above -/
theorem decode_span (s : ByteArray) (pos : Nat) (h : pos < s.size) :
    ((((L s)[pos]'(by simpa using h)).toNat < 128 → Utf8.decode s pos = (((L s)[pos]'(by simpa using h)).toNat, 1)) ∧
     (128 ≤ ((L s)[pos]'(by simpa using h)).toNat → 128 ≤ (Utf8.decode s pos).1)) ∧ 1 ≤ (Utf8.decode s pos).2 ∧ pos + (Utf8.decode s pos).2 ≤ s.size ∧
    ∀ j (hj : j < s.size), pos < j → j < pos + (Utf8.decode s pos).2 → 128 ≤ ((L s)[j]'(by simpa using hj)).toNat := by
  have hc := Lib.decodeN_conts (s.size - pos) (s.get! pos).toNat (s.get! (pos + 1)).toNat (s.get! (pos + 2)).toNat (s.get! (pos + 3)).toNat
  have hw := Lib.decodeN_ge1 (s.size - pos) (s.get! pos).toNat (s.get! (pos + 1)).toNat (s.get! (pos + 2)).toNat (s.get! (pos + 3)).toNat
  rw [← Lib.decode_at] at hc hw
  obtain ⟨c2, c3, c4, c5⟩ := hc
  have hget : ∀ k (hk : k < s.size), s.get! k = (L s)[k]'(by simpa using hk) := fun k hk => by
    simp [ByteArray.get!, getElem!_pos, hk, L]
  refine ⟨⟨fun ha => decode_ascii s pos h (by simpa [get_L] using ha), fun ha => (decode_high s pos h (by simpa [get_L] using ha)).1⟩, hw, by omega, fun j hj h1 h2 => ?_⟩
  have hb := (L s)[j].toNat_lt
  have : j = pos + 1 ∨ j = pos + 2 ∨ j = pos + 3 := by omega
  rcases this with rfl | rfl | rfl
  · have := (c2 (by omega)).1; rw [hget _ hj] at this; omega
  · have := (c3 (by omega)).1; rw [hget _ hj] at this; omega
  · have := (c4 (by omega)).1; rw [hget _ hj] at this; omega
end Go.Proofs.YtgdnphmannbpgaaGreatDoor
/-
  line: what its functions compute, as plain Lean over lists of bytes, and laws on it.
-/
namespace Go.Proofs.YtgdnphmannbpgaaGreatDoor

/-! ## lines -/
def split10 : List UInt8 → List (List UInt8)
  | [] => [[]]
  | b :: r => if b = 10 then [] :: split10 r else match split10 r with
    | x :: xs => (b :: x) :: xs
    | [] => [[b]]
/-- the lines of a text -/
def linesT (l : List UInt8) : List (List UInt8) := if (split10 l).getLast? = some [] then (split10 l).dropLast else split10 l
def joinT (l : List (List UInt8)) : List UInt8 := l.flatMap (fun x => x ++ [10])

theorem split10_ne (l : List UInt8) : split10 l ≠ [] := by
  cases l with
  | nil => simp [split10]
  | cons b r =>
    unfold split10
    split
    · simp
    · split <;> simp
theorem split10_none {l : List UInt8} (h : 10 ∉ l) : split10 l = [l] := by
  induction l with
  | nil => rfl
  | cons b r ih =>
    have h1 : b ≠ 10 := fun e => h (by rw [e]; simp)
    rw [split10, if_neg h1, ih (fun hh => h (by simp [hh]))]
theorem split10_app {a : List UInt8} (r : List UInt8) (h : 10 ∉ a) : split10 (a ++ 10 :: r) = a :: split10 r := by
  induction a with
  | nil => simp [split10]
  | cons b a ih =>
    have h1 : b ≠ 10 := fun e => h (by rw [e]; simp)
    rw [List.cons_append, split10, if_neg h1, ih (fun hh => h (by simp [hh]))]
theorem find10 (l : List UInt8) : 10 ∉ l ∨ ∃ a r, l = a ++ 10 :: r ∧ 10 ∉ a := by
  induction l with
  | nil => exact .inl (by simp)
  | cons b l ih =>
    by_cases hb : b = 10
    · exact .inr ⟨[], l, by rw [hb]; rfl, by simp⟩
    · rcases ih with h | ⟨a, r, rfl, h⟩
      · exact .inl (by simp only [List.mem_cons, not_or]; exact ⟨fun e => hb e.symm, h⟩)
      · exact .inr ⟨b :: a, r, rfl, by simp only [List.mem_cons, not_or]; exact ⟨fun e => hb e.symm, h⟩⟩
theorem split10_mem {l : List UInt8} : ∀ x ∈ split10 l, 10 ∉ x := by
  induction l with
  | nil => simp [split10]
  | cons b r ih =>
    intro x hx
    unfold split10 at hx
    split at hx
    · rcases List.mem_cons.1 hx with rfl | hx
      · simp
      · exact ih x hx
    · rename_i hb
      cases hs : split10 r with
      | nil => exact absurd hs (split10_ne r)
      | cons y ys =>
        rw [hs] at hx ih
        rcases List.mem_cons.1 hx with rfl | hx
        · simp only [List.mem_cons, not_or]
          exact ⟨fun e => hb e.symm, ih y (by simp)⟩
        · exact ih x (by simp [hx])
/-- the last piece apart, all others with an LF -/
theorem split10_join (l : List UInt8) : ∃ ini last, split10 l = ini ++ [last] ∧ l = joinT ini ++ last ∧ 10 ∉ last := by
  induction l with
  | nil => exact ⟨[], [], rfl, rfl, by simp⟩
  | cons b r ih =>
    obtain ⟨ini, last, h1, h2, h3⟩ := ih
    by_cases hb : b = 10
    · subst hb
      refine ⟨[] :: ini, last, by rw [split10, if_pos rfl, h1]; rfl, ?_, h3⟩
      conv => lhs; rw [h2]
      simp [joinT]
    · cases ini with
      | nil =>
        refine ⟨[], b :: last, by rw [split10, if_neg hb, h1]; rfl, by rw [h2]; rfl, ?_⟩
        simp only [List.mem_cons, not_or]; exact ⟨fun e => hb e.symm, h3⟩
      | cons y ys =>
        refine ⟨(b :: y) :: ys, last, by rw [split10, if_neg hb, h1]; rfl, ?_, h3⟩
        conv => lhs; rw [h2]
        simp [joinT]
theorem linesT_cases (l : List UInt8) : ∃ ini last, l = joinT ini ++ last ∧ 10 ∉ last ∧ (∀ x ∈ ini, 10 ∉ x) ∧ ((last = [] ∧ linesT l = ini) ∨ (last ≠ [] ∧ linesT l = ini ++ [last])) := by
  obtain ⟨ini, last, h1, h2, h3⟩ := split10_join l
  have hm := split10_mem (l := l)
  rw [h1] at hm
  refine ⟨ini, last, h2, h3, fun x hx => hm x (by simp [hx]), ?_⟩
  unfold linesT
  rw [h1]
  by_cases hl : last = []
  · subst hl
    exact .inl ⟨rfl, by simp⟩
  · exact .inr ⟨hl, by simp [hl]⟩
theorem split10_joinT (ini : List (List UInt8)) (last : List UInt8) (h : ∀ x ∈ ini, 10 ∉ x) (h2 : 10 ∉ last) : split10 (joinT ini ++ last) = ini ++ [last] := by
  induction ini with
  | nil => simpa [joinT] using split10_none h2
  | cons x ini ih =>
    have e : joinT (x :: ini) ++ last = x ++ 10 :: (joinT ini ++ last) := by simp [joinT]
    rw [e, split10_app _ (h x (by simp)), ih fun y hy => h y (by simp [hy])]; rfl
/-- joined lines are split as they were -/
theorem lines_join {l : List (List UInt8)} (h : ∀ x ∈ l, 10 ∉ x) : linesT (joinT l) = l := by
  have := split10_joinT l [] h (by simp)
  rw [List.append_nil] at this
  unfold linesT
  rw [this]
  simp
/-- a text's lines, joined, are it, or it with an LF behind -/
theorem join_lines (l : List UInt8) : joinT (linesT l) = l ∨ joinT (linesT l) = l ++ [10] := by
  obtain ⟨ini, last, h1, _, _, h4⟩ := linesT_cases l
  rcases h4 with ⟨rfl, h5⟩ | ⟨_, h5⟩
  · left; rw [h5, h1]; simp
  · right; rw [h5]
    conv => rhs; rw [h1]
    simp [joinT]
theorem linesT_no (l : List UInt8) : ∀ x ∈ linesT l, 10 ∉ x := by
  obtain ⟨ini, last, _, h2, h3, h4⟩ := linesT_cases l
  rcases h4 with ⟨_, h5⟩ | ⟨_, h5⟩
  · rw [h5]; exact h3
  · rw [h5]; intro x hx
    rcases List.mem_append.1 hx with hx | hx
    · exact h3 x hx
    · simp at hx; subst hx; exact h2
theorem count_join (ini : List (List UInt8)) (h : ∀ x ∈ ini, 10 ∉ x) : (joinT ini).count 10 = ini.length := by
  induction ini with
  | nil => rfl
  | cons x ini ih =>
    have e : joinT (x :: ini) = x ++ 10 :: joinT ini := by simp [joinT]
    rw [e, List.count_append, List.count_cons_self, ih fun y hy => h y (by simp [hy]), List.count_eq_zero.2 (h x (by simp))]
    simp
/-- as many lines as LFs, and one more -/
theorem lines_count (l : List UInt8) : (linesT l).length = l.count 10 + (if l = [] ∨ l.getLast? = some 10 then 0 else 1) := by
  obtain ⟨ini, last, h1, h2, h3, h4⟩ := linesT_cases l
  have hc : l.count 10 = ini.length := by
    rw [h1, List.count_append, count_join ini h3, List.count_eq_zero.2 h2]; omega
  rcases h4 with ⟨rfl, h5⟩ | ⟨h0, h5⟩
  · rw [h5, hc]
    have : l = [] ∨ l.getLast? = some 10 := by
      rw [h1, List.append_nil]
      rcases ini.eq_nil_or_concat with rfl | ⟨i2, x, rfl⟩
      · exact .inl rfl
      · right; simp [joinT]
    rw [if_pos this]; rfl
  · rw [h5, hc]
    have : ¬ (l = [] ∨ l.getLast? = some 10) := by
      rintro (h | h)
      · rw [h1] at h; exact h0 (List.append_eq_nil_iff.1 h).2
      · rw [h1, List.getLast?_append] at h
        cases hl : last.getLast? with
        | none => exact h0 (List.getLast?_eq_none_iff.1 hl)
        | some b =>
          rw [hl] at h
          simp at h
          subst h
          exact h2 (List.mem_of_getLast? hl)
    rw [if_neg this]; simp
theorem joinT_app (a b : List (List UInt8)) : joinT (a ++ b) = joinT a ++ joinT b := by simp [joinT]
theorem joinT_len (l : List (List UInt8)) : (joinT l).length = (l.map (fun x => x.length + 1)).sum := by
  induction l with
  | nil => rfl
  | cons x l ih => simp only [joinT, List.flatMap_cons, List.length_append, List.map_cons, List.sum_cons, List.length_singleton] at *; omega

/-! ## the kit's Split -/
theorem index10 (l : List UInt8) : (10 ∉ l ∧ Lib.index l [10] = -1) ∨ ∃ a r, l = a ++ 10 :: r ∧ 10 ∉ a ∧ Lib.index l [10] = a.length := by
  induction l with
  | nil => exact .inl ⟨by simp, rfl⟩
  | cons b l ih =>
    by_cases hb : b = 10
    · subst hb
      exact .inr ⟨[], l, rfl, by simp, by simp [Lib.index]⟩
    · have e : Lib.index (b :: l) [10] = if Lib.index l [10] == -1 then -1 else Lib.index l [10] + 1 := by
        rw [Lib.index, if_neg]
        simp only [List.isPrefixOf, Bool.and_eq_true, beq_iff_eq, and_true]
        exact fun e => hb e.symm
      rcases ih with ⟨h1, h2⟩ | ⟨a, r, rfl, h1, h2⟩
      · exact .inl ⟨by simp only [List.mem_cons, not_or]; exact ⟨fun e => hb e.symm, h1⟩, by rw [e, h2]; rfl⟩
      · refine .inr ⟨b :: a, r, rfl, by simp only [List.mem_cons, not_or]; exact ⟨fun e => hb e.symm, h1⟩, ?_⟩
        rw [e, h2, if_neg (by simp)]
        simp
theorem split_kit : ∀ (k : Nat) (s : ByteArray), Lib.countB s ⟨#[10]⟩ = k → (Lib.splitB ⟨#[10]⟩ 0 k s).map L = split10 (L s) := by
  intro k
  induction k with
  | zero =>
    intro s hk
    rw [Lib.splitB_zero]
    rcases index10 (L s) with ⟨h1, _⟩ | ⟨a, r, h1, h2, h3⟩
    · rw [split10_none h1]; rfl
    · have := Lib.countB_hit s ⟨#[10]⟩ a.length (Nat.le_refl _) h3
      omega
  | succ k ih =>
    intro s hk
    rcases index10 (L s) with ⟨h1, h2⟩ | ⟨a, r, h1, h2, h3⟩
    · have := Lib.countB_miss s ⟨#[10]⟩ h2
      omega
    · have hc := Lib.countB_hit s ⟨#[10]⟩ a.length (Nat.le_refl _) h3
      rw [Lib.splitB_hit ⟨#[10]⟩ 0 k s a.length h3, List.map_cons, ih _ (by omega), L_extract, L_extract]
      have hl : (L s).length = s.size := length_L s
      rw [← hl, List.take_length, h1, split10_app r h2]
      have e1 : List.drop 0 (List.take (a.length + 0) (a ++ 10 :: r)) = a := by simp
      have e2 : List.drop (a.length + (⟨#[10]⟩ : ByteArray).size) (a ++ 10 :: r) = r := by
        show List.drop (a.length + 1) (a ++ 10 :: r) = r
        rw [List.drop_append, List.drop_eq_nil_of_le (by omega)]; simp
      rw [e1, e2]
end Go.Proofs.YtgdnphmannbpgaaGreatDoor
/-
  line: blanks at a line's beginning: what Expand, Indent and Strip compute, and laws on it.
-/
namespace Go.Proofs.YtgdnphmannbpgaaGreatDoor

/-- the column behind the blanks that a line begins with -/
def colT : Nat → List UInt8 → Nat
  | c, [] => c
  | c, b :: r => if b = 32 then colT (c + 1) r else if b = 9 then colT (c + (4 - c % 4)) r else c
def restT (l : List UInt8) : List UInt8 := l.dropWhile (fun b => b == 32 || b == 9)
def expandT (l : List UInt8) : List UInt8 := List.replicate (colT 0 l) 32 ++ restT l
def stripT (l : List UInt8) (n : Int) : List UInt8 := (expandT l).drop (min (max n 0).toNat (colT 0 l))
/-- no blank stands ahead -/
def NoBlank (r : List UInt8) : Prop := ∀ b, r.head? = some b → b ≠ 32 ∧ b ≠ 9

theorem restT_no (l : List UInt8) : NoBlank (restT l) := by
  induction l with
  | nil => intro b h; cases h
  | cons x l ih =>
    unfold restT
    rw [List.dropWhile_cons]
    split
    · exact ih
    · rename_i h
      intro b hb
      simp at hb h
      subst hb
      exact h
theorem colT_le (l : List UInt8) : ∀ c, c ≤ colT c l ∧ colT c l ≤ c + 4 * l.length := by
  induction l with
  | nil => intro c; simp [colT]
  | cons b l ih =>
    intro c
    unfold colT
    split
    · have := ih (c + 1); simp only [List.length_cons]; omega
    · split
      · have := ih (c + (4 - c % 4)); simp only [List.length_cons]; omega
      · simp only [List.length_cons]; omega
theorem restT_le (l : List UInt8) : (restT l).length ≤ l.length := (List.dropWhile_sublist _).length_le
theorem expandT_le (l : List UInt8) : (expandT l).length ≤ 5 * l.length := by
  have h1 := (colT_le l 0).2
  have h2 := restT_le l
  simp only [expandT, List.length_append, List.length_replicate]
  omega
theorem colT_rep (n : Nat) (r : List UInt8) : ∀ c, colT c (List.replicate n 32 ++ r) = colT (c + n) r := by
  induction n with
  | zero => intro c; rfl
  | succ n ih =>
    intro c
    rw [List.replicate_succ, List.cons_append, colT, if_pos rfl, ih (c + 1)]
    congr 1; omega
theorem colT_no {r : List UInt8} (h : NoBlank r) (c : Nat) : colT c r = c := by
  cases r with
  | nil => rfl
  | cons b r =>
    have := h b rfl
    rw [colT, if_neg this.1, if_neg this.2]
theorem restT_rep (n : Nat) (r : List UInt8) : restT (List.replicate n 32 ++ r) = restT r := by
  induction n with
  | zero => rfl
  | succ n ih => rw [List.replicate_succ, List.cons_append]; unfold restT at *; rw [List.dropWhile_cons, if_pos (by simp), ih]
theorem restT_of_no {r : List UInt8} (h : NoBlank r) : restT r = r := by
  cases r with
  | nil => rfl
  | cons b r =>
    have := h b rfl
    unfold restT
    rw [List.dropWhile_cons, if_neg (by simp [this.1, this.2])]
theorem col_blanks {n : Nat} {r : List UInt8} (h : NoBlank r) : colT 0 (List.replicate n 32 ++ r) = n ∧ restT (List.replicate n 32 ++ r) = r := by
  rw [colT_rep, colT_no h, restT_rep, restT_of_no h]
  exact ⟨by omega, rfl⟩
theorem expand_expand (l : List UInt8) : expandT (expandT l) = expandT l := by
  obtain ⟨h1, h2⟩ := col_blanks (n := colT 0 l) (restT_no l)
  conv => lhs; rw [expandT]
  rw [show colT 0 (expandT l) = colT 0 l from h1, show restT (expandT l) = restT l from h2]; rfl
theorem stripT_eq (l : List UInt8) (n : Int) : stripT l n = List.replicate (colT 0 l - min (max n 0).toNat (colT 0 l)) 32 ++ restT l := by
  unfold stripT expandT
  rw [List.drop_append, List.drop_replicate, List.length_replicate]
  rw [show min (max n 0).toNat (colT 0 l) - colT 0 l = 0 by omega, List.drop_zero]
theorem strip_col (l : List UInt8) (n : Int) : colT 0 (stripT l n) = colT 0 l - (max n 0).toNat ∧ restT (stripT l n) = restT l := by
  rw [stripT_eq]
  obtain ⟨h1, h2⟩ := col_blanks (n := colT 0 l - min (max n 0).toNat (colT 0 l)) (restT_no l)
  exact ⟨by rw [h1]; omega, h2⟩
theorem strip_strip (l : List UInt8) (a b : Int) (ha : 0 ≤ a) (hb : 0 ≤ b) : stripT (stripT l a) b = stripT l (a + b) := by
  obtain ⟨h1, h2⟩ := strip_col l a
  rw [stripT_eq (stripT l a) b, stripT_eq l (a + b), h1, h2]
  congr 2
  omega
theorem strip_zero (l : List UInt8) : stripT l 0 = expandT l := by
  unfold stripT; simp
theorem trimLeft_expand (l : List UInt8) : Lib.trimLeftB (expandT l) 32 = restT l := by
  unfold Lib.trimLeftB expandT
  have key : ∀ n, List.dropWhile (fun x => x == 32) (List.replicate n 32 ++ restT l) = restT l := by
    intro n
    induction n with
    | zero =>
      have h := restT_no l
      cases hr : restT l with
      | nil => rfl
      | cons b r =>
        rw [hr] at h
        rw [List.replicate_zero, List.nil_append, List.dropWhile_cons, if_neg (by simpa using (h b rfl).1)]
    | succ n ih => rw [List.replicate_succ, List.cons_append, List.dropWhile_cons, if_pos (by simp), ih]
  exact key _
theorem tab_col (n : Nat) {s : List UInt8} (h : NoBlank s) : colT 0 (List.replicate n 32 ++ 9 :: s) = n / 4 * 4 + 4 ∧ restT (List.replicate n 32 ++ 9 :: s) = s := by
  rw [colT_rep, restT_rep]
  refine ⟨?_, ?_⟩
  · rw [colT, if_neg (by decide), if_pos rfl, colT_no h]; omega
  · unfold restT; rw [List.dropWhile_cons, if_pos (by simp)]; exact restT_of_no h
end Go.Proofs.YtgdnphmannbpgaaGreatDoor
/-
  Texts as bytes: whether two are one, in the walk's spellings.
-/
namespace Go.Proofs.YtgdnphmannbpgaaGreatDoor
open Go.RowKit

theorem bytes_same (a b : ByteArray) : (a == b) = true ↔ a = b := by
  rw [beq_toListBytes, beq_iff_eq, ByteArray.toList_eq, ByteArray.toList_eq]
  exact ⟨fun h => L_inj h, fun h => by rw [h]⟩
/-- two texts that are not one: in all the walk's spellings -/
theorem bytes_ne {a b : ByteArray} (h : ¬ a = b) : (a == b) = false ∧ (a.toList == b.toList) = false ∧ ¬ a.toList = b.toList := by
  have h1 : (a == b) = false := Bool.eq_false_iff.2 fun e => h ((bytes_same _ _).1 e)
  have h2 : (a.toList == b.toList) = false := by rw [← beq_toListBytes]; exact h1
  exact ⟨h1, h2, fun e => by rw [e] at h2; simp at h2⟩
/-- a text that is not empty -/
theorem bytes_some {a : ByteArray} (h : ¬ a.size = 0) : (a == ⟨#[]⟩) = false ∧ ¬ a.toList = [] ∧ a.toList.isEmpty = false := by
  have h1 : ¬ a = ⟨#[]⟩ := fun e => h (by rw [e]; rfl)
  have h2 : ¬ a.toList = [] := fun e => h1 (by rw [ByteArray.toList_eq] at e; exact L_inj e)
  exact ⟨(bytes_ne h1).1, h2, by simpa using h2⟩
theorem bytes_none {a : ByteArray} (h : a.size = 0) : a = ⟨#[]⟩ := L_inj (List.eq_nil_of_length_eq_zero (by simpa using h))
theorem byte_ne {x : UInt8} {n : Nat} (hn : n < 256) (h : ¬ x = n.toUInt8) : ((x.toNat : Int) == (n : Int)) = false := by
  refine beq_eq_false_iff_ne.2 fun e => h (UInt8.toNat_inj.1 ?_)
  have : x.toNat = n := by omega
  rw [this]; simp; omega

theorem byte_bne {x : UInt8} {n : Nat} (hn : n < 256) (h : ¬ x = n.toUInt8) : ((x.toNat : Int) != (n : Int)) = true := by
  rw [bne, byte_ne hn h]; rfl
end Go.Proofs.YtgdnphmannbpgaaGreatDoor
