/-
  emph: the data of its functions, and the contract of nodes, three, nothing.
-/
import Derived.Test.YtfdfpimilmhhoaaChecked
import Derived.Test.YtfdfpimilmhhoaaBuild
namespace Go.Proofs.Ytfdfpimilmhhoaa
open Go.RowKit

structure Inl where
  kind : Int
  depth : Int
  text : ByteArray
  url : ByteArray
  title : ByteArray
  deriving DecidableEq
def Inl.cells (x : Inl) : List Value := [.int .i64 x.kind, .int .i64 x.depth, .string x.text, .string x.url, .string x.title]
abbrev inlCells (l : List Inl) : List Value := l.flatMap Inl.cells
theorem inl_len (x : Inl) : x.cells.length = 5 := rfl

theorem Try.infoInl : (Try.prog.info? 95).map (fun i => (i.zero, i.size, i.bytes)) = some (some (.agg #[.int .i64 0, .int .i64 0, .string ⟨#[]⟩, .string ⟨#[]⟩, .string ⟨#[]⟩]), 5, 64) := by kernel_rfl
theorem Try.elInls : Elem Try.prog 51 95 5 64 := Elem.mk' Try.underlying51 Try.infoInl rfl (by decide)

/-- nodes that can be read: they came in (below B0), or the call made them (from B0 on) -/
def Live (w : World) (B0 : Nat) (A : Option Addr) (n c : Nat) (l : List Inl) : Prop :=
  Reads w B0 5 A n (inlCells l) ∨ Own w B0 95 5 A n c (inlCells l)

/-- a piece: an item (its nodes in memory), how many signs are left, whether it is shut -/
structure Pc where
  sign : UInt8
  n : Int
  opn : Bool
  cls : Bool
  A : Option Addr
  ln : Nat
  cp : Nat
  l : List Inl
  left : Int
  shut : Bool
def Pc.cells (p : Pc) : List Value := [.int .u8 (p.sign.toNat : Int), .int .i64 p.n, .bool p.opn, .bool p.cls, .slice p.A p.ln p.cp, .int .i64 p.left, .bool p.shut]
abbrev Pc.agg (p : Pc) : Value := .agg #[.int .u8 (p.sign.toNat : Int), .int .i64 p.n, .bool p.opn, .bool p.cls, .slice p.A p.ln p.cp, .int .i64 p.left, .bool p.shut]
theorem pc_len (p : Pc) : p.cells.length = 7 := rfl

section
variable {w w' : World} {B0 n c : Nat} {A : Option Addr} {l : List Inl}
theorem Live.len (h : Live w B0 A n c l) : l.length = n := by
  have : (inlCells l).length = n * 5 := by
    rcases h with h | h
    · exact h.1
    · exact h.len
  rw [flat_length _ 5 inl_len] at this; omega
theorem Live.reads (h : Live w B0 A n c l) (hB : B0 ≤ w.heap.size) : Reads w w.heap.size 5 A n (inlCells l) := by
  rcases h with h | h
  · exact h.more hB
  · exact h.reads
theorem Live.below (h : Live w B0 A n c l) (hb : Below w.heap.size w w') (hB : B0 ≤ w.heap.size) : Live w' B0 A n c l := by
  rcases h with h | h
  · exact .inl (h.below (hb.mono hB))
  · exact .inr (h.below hb (Nat.le_refl _))
theorem Live.alloc (h : Live w B0 A n c l) (hB : B0 ≤ w.heap.size) (o : Obj) : Live (w.alloc o) B0 A n c l := by
  rcases h with h | h
  · exact .inl (h.alloc hB o)
  · exact .inr (h.alloc o)
theorem Live.drewN (h : Live w B0 A n c l) (k : Nat) : Live (w.drewN k) B0 A n c l := h
/-- while another row (of other elements) is written -/
theorem Live.only {e size m d : Nat} {B : Option Addr} {xs : List Value} (h : Live w B0 A n c l) (ho : Only w w' B) (hB : Own w B0 e size B m d xs) (he : 95 ≠ e) (hBs : B0 ≤ w.heap.size) : Live w' B0 A n c l := by
  rcases h with h | h
  · exact .inl (h.below (ho.below (fun a ha => (hB.lt ha).1) hBs))
  · exact .inr (h.only ho (h.sep_ne hB he))
end

theorem three_any (n : Int) (w : World) : Calls Try.prog 108 #[.int .i64 n] w fun e w' => e = .returned (.bool (n.tmod 3 == 0)) ∧ w' = w := by
  go_enter Try.func108, Try.ntmps108
  go_wp2
  go_ret
  exact ⟨rfl, rfl⟩

set_option maxRecDepth 100000 in
theorem nothing_any (s : ByteArray) (w : World) : Calls Try.prog 74 #[.string s] w fun e w' => e = .returned (.bool (decide (s.size = 0))) ∧ Below w.heap.size w w' := by
  go_enter Try.func74, Try.ntmps74
  go_wp2_with fail
  have hit := World.iter_heap w s 0
  have bb : Below w.heap.size w (w.iter s 0) := (Below.refl _ _).alloc (Nat.le_refl _) (.stringIter s 0)
  generalize w.iter s 0 = w1 at *
  by_cases hp : 0 < s.size
  · have hnx : ∀ ty, (Instr.next (.pointer (some ⟨w.heap.size, 0, none⟩)) true ty).run Try.prog w1 = _ := fun ty => Lib.run_next_any_at w1 w.heap.size s 0 ty hit hp
    have bb2 := Lib.below_iterAt bb (Nat.le_refl _) s (0 + (Utf8.decode s 0).2)
    have hd := Lib.hid (show decide (s.size = 0) = false from decide_eq_false (by omega))
    refine wp_loop_rounds 1 ?_
    rw [rounds_succ]
    go_wp2_with fail
    go_ret
    rw [hd.out]
    exact ⟨rfl, by simpa using bb2⟩
  · have hnx : ∀ ty, (Instr.next (.pointer (some ⟨w.heap.size, 0, none⟩)) true ty).run Try.prog w1 = _ := fun ty => Lib.run_next_end_at w1 w.heap.size s 0 ty hit hp
    have hd := Lib.hid (show decide (s.size = 0) = true from decide_eq_true (by omega))
    refine wp_loop_rounds 1 ?_
    rw [rounds_succ]
    go_wp2_with fail
    go_ret
    rw [hd.out]
    exact ⟨rfl, bb⟩

/-- a piece's nodes -/
def pcText (sign : UInt8) (left : Int) : ByteArray := S (List.replicate left.toNat sign)
def nodesT (sign : UInt8) (left : Int) (l : List Inl) : List Inl :=
  if sign = 0 then l else if 0 < left then [⟨1, 0, pcText sign left, ⟨#[]⟩, ⟨#[]⟩⟩] else []
theorem u8_ne {b : UInt8} (h : ¬ b = 0) : ¬ b.toNat = 0 := fun e => h (by have := congrArg UInt8.ofNat e; simpa using this)

set_option maxHeartbeats 1000000 in
set_option maxRecDepth 100000 in
theorem nodes_any (p : Pc) (B0 : Nat) (w : World) (hB : B0 ≤ w.heap.size) (hL : Live w B0 p.A p.ln p.cp p.l) (hl : p.left ≤ 1048576) :
    Calls Try.prog 73 #[p.agg] w fun e w' => ∃ A n c, e = .returned (.slice A n c) ∧ Live w' B0 A n c (nodesT p.sign p.left p.l) ∧ Below w.heap.size w w' := by
  obtain ⟨sign, n, opn, cls, A, ln, cp, l, left, shut⟩ := p
  simp only at *
  simp only [Pc.agg]
  by_cases h0 : sign = 0
  · subst h0
    go_enter Try.func73, Try.ntmps73
    go_wp2_with fail
    go_ret
    exact ⟨A, ln, cp, rfl, hL.alloc hB _, (Below.refl _ _).alloc (Nat.le_refl _) _⟩
  · have q : ((sign.toNat : Int) == 0) = false := beq_eq_false_iff_ne.2 (by have := u8_ne h0; omega)
    have HN := Lib.hid (show nodesT sign left l = if 0 < left then [⟨1, 0, pcText sign left, ⟨#[]⟩, ⟨#[]⟩⟩] else [] from if_neg h0)
    by_cases hleft : 0 < left
    · have hcv : (convert 67 9 (.slice (some ⟨w.heap.size + 1, 0, none⟩) 1 1)).run Try.prog
          ((w.alloc (.cells #[.int .u8 (sign.toNat : Int), .int .i64 n, .bool opn, .bool cls, .slice A ln cp, .int .i64 left, .bool shut] 98)).alloc (.cells #[.int .u8 (sign.toNat : Int)] 5)) =
          .ok (.string (S [sign])) ((w.alloc (.cells #[.int .u8 (sign.toNat : Int), .int .i64 n, .bool opn, .bool cls, .slice A ln cp, .int .i64 left, .bool shut] 98)).alloc (.cells #[.int .u8 (sign.toNat : Int)] 5)) := by
        refine run_convert_bytes_back _ _ _ 5 _ 1 [sign] Try.underlying67 Try.underlying5 Try.underlying9 (fun j hj => ?_)
        have : j = 0 := by simpa using hj
        subst this
        exact (Blk.new' (w.alloc (.cells #[.int .u8 (sign.toNat : Int), .int .i64 n, .bool opn, .bool cls, .slice A ln cp, .int .i64 left, .bool shut] 98)) 5 #[.int .u8 (sign.toNat : Int)] (w.heap.size + 1) (by simp)).cell 0
      go_enter Try.func73, Try.ntmps73
      go_wp2_with fail
      refine (repeat_any _ _ _ (by omega) (by simp; omega) (by omega)).mono ?_
      rintro e w1 ⟨rfl, b1⟩
      have bb1 : Below w.heap.size w w1 := (((Below.refl _ _).alloc (Nat.le_refl _) _).alloc (by simp) _).trans (b1.mono (by simp; omega))
      have hz := bb1.size
      clear b1 hcv
      go_wp2_with fail
      go_ret
      rw [HN.out, if_pos hleft]
      have ht : Lib.repeatL [sign] left.toNat = List.replicate left.toNat sign := repeatL_one _ _
      rw [ht]
      refine ⟨some ⟨w1.heap.size, 0, none⟩, 1, 1, rfl, .inr ?_, bb1.alloc hz _⟩
      exact World.ownsRow_lit w1 _ 1 (by omega) (by decide) rfl
    · go_enter Try.func73, Try.ntmps73
      go_wp2_with fail
      go_ret
      rw [HN.out, if_neg (by omega)]
      exact ⟨none, 0, 0, rfl, .inr (Own.nil _ _ _ _), (Below.refl _ _).alloc (Nat.le_refl _) _⟩
end Go.Proofs.Ytfdfpimilmhhoaa
