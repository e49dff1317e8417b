/-
  The library's contracts for strings.Builder that the one command passes over at this dump, laid by hand.
-/
import Derived.Shelf.Strings.BuilderK
import Derived.Test.YtfdfpimilmhhoaaShelf
import Derived.Test.YtfdfpimilmhhoaaMem
import Derived.Test.YtfdfpimilmhhoaaPlain
namespace Go.Proofs.Ytfdfpimilmhhoaa
open Go.Shelf Go.RowKit
def Try.renBf (n : Nat) : Nat := if n = 166 then 32 else if n = 240 then 80 else if n = 276 then 101
  else if n = 167 then 79
  else n
def Try.renBt (n : Nat) : Nat := match n with
  | 0 => 0
  | 3 => 3
  | 4 => 4
  | 5 => 5
  | 9 => 9
  | 20 => 20
  | 37 => 67
  | 70 => 66
  | 72 => 69
  | 75 => 71
  | 80 => 76
  | 164 => 138
  | n => n
def Try.renB : Go.Shelf.Ren := ⟨Try.renBf, Try.renBt, fun n => n⟩
theorem Try.lays166 : Go.Proofs.Lays.n166 Try.prog Try.renB := {
  mixed := by kernel_rfl
  f166 := Try.func32.trans (congrArg some (by kernel_rfl))
  f240 := Try.func80.trans (congrArg some (by kernel_rfl))
  f276 := Try.func101.trans (congrArg some (by kernel_rfl))
  t0 := Try.underlying0, a0 := Try.isAgg0, z0 := Try.sizeOf0, v0 := Try.zeroValue0
  t3 := Try.underlying3, a3 := Try.isAgg3, z3 := Try.sizeOf3, v3 := Try.zeroValue3
  t4 := Try.underlying4, a4 := Try.isAgg4, z4 := Try.sizeOf4, v4 := Try.zeroValue4
  t9 := Try.underlying9, a9 := Try.isAgg9, z9 := Try.sizeOf9, v9 := Try.zeroValue9
  t20 := Try.underlying20, a20 := Try.isAgg20, z20 := Try.sizeOf20, v20 := Try.zeroValue20
  t37 := Try.underlying67, a37 := Try.isAgg67, z37 := Try.sizeOf67, v37 := Try.zeroValue67
  t70 := Try.underlying66, a70 := Try.isAgg66, z70 := Try.sizeOf66, v70 := Try.zeroValue66
  t72 := Try.underlying69, a72 := Try.isAgg69, z72 := Try.sizeOf69, v72 := Try.zeroValue69
  t75 := Try.underlying71, a75 := Try.isAgg71, z75 := Try.sizeOf71, v75 := Try.zeroValue71
  t164 := Try.underlying138, a164 := Try.isAgg138, z164 := Try.sizeOf138, v164 := Try.zeroValue138 }
theorem Try.extraB : Builder.Extra Try.prog Try.renB := {
  sizeBuilder := by kernel_rfl
  liesBuilder := by kernel_rfl
  t5 := Try.underlying5
  a5 := Try.isAgg5
  z5 := Try.sizeOf5
  v5 := Try.zeroValue5
  infoByte := by kernel_rfl
  cellsByte := by kernel_rfl
  sizeByte := by kernel_rfl
  neB5 := by decide }

theorem Try.lays167 : Go.Proofs.Lays.n167 Try.prog Try.renB := {
  mixed := by kernel_rfl
  f167 := Try.func79.trans (congrArg some (by kernel_rfl))
  f240 := Try.func80.trans (congrArg some (by kernel_rfl))
  f276 := Try.func101.trans (congrArg some (by kernel_rfl))
  t0 := Try.underlying0, a0 := Try.isAgg0, z0 := Try.sizeOf0, v0 := Try.zeroValue0
  t4 := Try.underlying4, a4 := Try.isAgg4, z4 := Try.sizeOf4, v4 := Try.zeroValue4
  t5 := Try.underlying5, a5 := Try.isAgg5, z5 := Try.sizeOf5, v5 := Try.zeroValue5
  t9 := Try.underlying9, a9 := Try.isAgg9, z9 := Try.sizeOf9, v9 := Try.zeroValue9
  t20 := Try.underlying20, a20 := Try.isAgg20, z20 := Try.sizeOf20, v20 := Try.zeroValue20
  t37 := Try.underlying67, a37 := Try.isAgg67, z37 := Try.sizeOf67, v37 := Try.zeroValue67
  t70 := Try.underlying66, a70 := Try.isAgg66, z70 := Try.sizeOf66, v70 := Try.zeroValue66
  t72 := Try.underlying69, a72 := Try.isAgg69, z72 := Try.sizeOf69, v72 := Try.zeroValue69
  t75 := Try.underlying71, a75 := Try.isAgg71, z75 := Try.sizeOf71, v75 := Try.zeroValue71
  t164 := Try.underlying138, a164 := Try.isAgg138, z164 := Try.sizeOf138, v164 := Try.zeroValue138 }
/-- a builder that holds bytes -/
def Bld (B b : Nat) (l : List UInt8) (w : World) : Prop := Lib.IsBuilderF 69 5 B b (Lib.byteCells l) w

/-- b.WriteString(s) -/
theorem writeString_any (B b : Nat) (l : List UInt8) (s : ByteArray) (w : World) (h : Bld B b l w) (hlen : l.length + s.size ≤ 140737488355328) (hBw : B ≤ w.heap.size) :
    Calls Try.prog 32 #[.pointer (some ⟨b, 0, none⟩), .string s] w fun e w' => e = .returned (.tuple #[.int .i64 s.size, .nilIface]) ∧
      Bld B b (l ++ L s) w' ∧ Below B w w' ∧ Lib.OthersKept 5 (some b) w w' := by
  refine (Any.Builder_WriteString_k Try.lays166 Try.extraB B b (Lib.byteCells l) s w h (by rw [Lib.byteCells_length]; exact hlen) hBw).mono ?_
  rintro e w' ⟨he, h1, h2, h3⟩
  refine ⟨he, Or.inr ?_, h2, h3⟩
  rw [Lib.byteCells_append]
  exact h1
/-- b.WriteByte(c) -/
theorem writeByte_any (B b : Nat) (l : List UInt8) (c : UInt8) (w : World) (h : Bld B b l w) (hlen : l.length + 1 ≤ 140737488355328) (hBw : B ≤ w.heap.size) :
    Calls Try.prog 79 #[.pointer (some ⟨b, 0, none⟩), .int .u8 (c.toNat : Int)] w fun e w' => e = .returned .nilIface ∧
      Bld B b (l ++ [c]) w' ∧ Below B w w' ∧ Lib.OthersKept 5 (some b) w w' := by
  refine (Any.Builder_WriteByte_k Try.lays167 Try.extraB B b (Lib.byteCells l) (c.toNat : Int) w h (by rw [Lib.byteCells_length]; exact hlen) hBw).mono ?_
  rintro e w' ⟨he, h1, h2, h3⟩
  refine ⟨he, Or.inr ?_, h2, h3⟩
  rw [Lib.byteCells_append]
  exact h1
/-- b.String() -/
theorem string_any (B b : Nat) (l : List UInt8) (w : World) (h : Bld B b l w) (hBw : B ≤ w.heap.size) :
    Calls Try.prog 35 #[.pointer (some ⟨b, 0, none⟩)] w fun e w' => e = .returned (.string (S l)) ∧ Bld B b l w' ∧ Below B w w' ∧ Lib.OthersKept 5 (some b) w w' :=
  (Try.Builder_String_any_k B b l w h hBw)
/-- strings.Repeat(s, c) -/
theorem repeat_any (s : ByteArray) (c : Int) (w : World) (h0 : 0 ≤ c) (hlen : s.size * c.toNat ≤ 140737488355328) (hc : c ≤ 9223372036854775807) :
    Calls Try.prog 34 #[.string s, .int .i64 c] w fun e w' => e = .returned (.string (S (Lib.repeatL (L s) c.toNat))) ∧ Below w.heap.size w w' := by
  obtain ⟨n, rfl⟩ := Int.eq_ofNat_of_zero_le h0
  rw [Int.toNat_natCast] at *
  exact Try.strings_Repeat s n w (by omega) hlen
theorem Bld.new (w : World) : Bld w.heap.size w.heap.size [] (w.alloc (.cells #[.pointer none, .slice none 0 0] 69)) := Lib.IsBuilderF.of (Lib.fresh_isBuilder 69 5 w)
theorem Bld.new' (w : World) (B : Nat) (h : w.heap.size = B) : Bld B B [] (w.alloc (.cells #[.pointer none, .slice none 0 0] 69)) := by subst h; exact Bld.new w

section
variable {w w' : World} {B b : Nat} {l : List UInt8}
theorem Bld.of_blocks (h : Bld B b l w) (hk : ∀ k, k < w.heap.size → w'.heap[k]? = w.heap[k]?) : Bld B b l w' := by
  have step : ∀ p, Lib.BuilderAtF 69 5 B b p (Lib.byteCells l) w → Lib.BuilderAtF 69 5 B b p (Lib.byteCells l) w' := by
    rintro p ⟨hB, v, hb, ⟨hl, hown⟩, hne⟩
    refine ⟨hB, v, (hk _ (Array.getElem?_eq_some_iff.1 hb).1).trans hb, ⟨hl, ?_⟩, hne⟩
    rcases hown with hn | ⟨g, cap, cur, fz, hv, hbg, hg, rest⟩
    · exact .inl hn
    · exact .inr ⟨g, cap, cur, fz, hv, hbg, (hk _ (Array.getElem?_eq_some_iff.1 hg).1).trans hg, rest⟩
  rcases h with h | h
  · exact .inl (step _ h)
  · exact .inr (step _ h)
theorem Bld.below {K : Nat} (h : Bld B b l w) (hb : Below K w w') (hK : w.heap.size ≤ K) : Bld B b l w' := h.of_blocks fun k hk => hb.block k (by omega)
theorem Bld.drew (h : Bld B b l w) : Bld B b l w.drew := h
theorem Bld.drewN (h : Bld B b l w) (n : Nat) : Bld B b l (w.drewN n) := h
theorem Bld.alloc (h : Bld B b l w) (o : Obj) : Bld B b l (w.alloc o) := h.of_blocks fun k hk => Below.heap_alloc w o k hk
theorem Bld.at_ (h : Bld B b l w) : ∃ p v, w.heap[b]? = some (.cells #[p, v] 69 (0, 0)) := by
  rcases h with ⟨_, v, h, _⟩ | ⟨_, v, h, _⟩ <;> exact ⟨_, _, h⟩
theorem Bld.lt (h : Bld B b l w) : b < w.heap.size := by
  obtain ⟨p, v, h⟩ := h.at_
  exact (Array.getElem?_eq_some_iff.1 h).1
theorem Own.others {base e size n c : Nat} {A : Option Addr} {xs : List Value} (h : Own w base e size A n c xs) (hb : Bld B b l w) (ho : Lib.OthersKept 5 (some b) w w') (he : e ≠ 5) (hT : e ≠ 69) :
    Own w' base e size A n c xs := by
  refine ⟨h.1, ?_⟩
  rcases h.2 with hn | ⟨g, cap, cur, hv, hb', hh, r⟩
  · exact .inl hn
  · refine .inr ⟨g, cap, cur, hv, hb', ho g _ hh (fun e1 => ?_) (fun c fz e1 => ?_), r⟩
    · injection e1 with e1
      obtain ⟨p, v, hbb⟩ := hb.at_
      rw [← e1, hh] at hbb
      injection hbb with hbb; injection hbb with _ hbb
      exact hT hbb
    · injection e1 with _ e1
      exact he e1
theorem Blk.others {g : Nat} {t : TypeId} {cs : Array Value} (h : Blk w g t cs) (hb : Bld B b l w) (ho : Lib.OthersKept 5 (some b) w w') (he : t ≠ 5) (hT : t ≠ 69) : Blk w' g t cs := by
  refine ho g _ h (fun e1 => ?_) (fun c fz e1 => ?_)
  · injection e1 with e1
    obtain ⟨p, v, hbb⟩ := hb.at_
    unfold Blk at h
    rw [← e1, h] at hbb
    injection hbb with hbb; injection hbb with _ hbb
    exact hT hbb
  · injection e1 with _ e1
    exact he e1
theorem Own.iterAt {base e size n c : Nat} {A : Option Addr} {xs : List Value} (h : Own w base e size A n c xs) {q pos : Nat} {s : ByteArray} (hq : w.heap[q]? = some (.stringIter s pos)) (pos' : Nat) :
    Own (w.iterAt q s pos') base e size A n c xs := by
  refine ⟨h.1, ?_⟩
  rcases h.2 with hn | ⟨g, cap, cur, hv, hb', hh, r⟩
  · exact .inl hn
  · refine .inr ⟨g, cap, cur, hv, hb', (Lib.iterAt_other w q g s pos' (fun e1 => ?_)).trans hh, r⟩
    rw [e1, hq] at hh
    cases hh
theorem Bld.iterAt (h : Bld B b l w) {q pos : Nat} {s : ByteArray} (hq : w.heap[q]? = some (.stringIter s pos)) (pos' : Nat) : Bld B b l (w.iterAt q s pos') := Lib.IsBuilderF.iterAt h hq pos'
/-- a builder stays one while a row of another kind grows -/
theorem Bld.only {base e size n c : Nat} {A : Option Addr} {xs : List Value} (h : Bld B b l w) (hA : Own w base e size A n c xs) (ho : Only w w' A) (he : e ≠ 5) (hT : e ≠ 69) : Bld B b l w' := by
  have key : ∀ (k : Nat) (o : Obj), w.heap[k]? = some o → (∀ cur fz, o ≠ Obj.cells cur e fz) → w'.heap[k]? = some o := by
    intro k o hk hne
    rw [ho.block k (Array.getElem?_eq_some_iff.1 hk).1 ?_]
    · exact hk
    · intro e1
      rcases hA.2 with ⟨h0, _⟩ | ⟨g, cap, cur, hv, _, hh, _⟩
      · injection h0 with h0; rw [h0] at e1; cases e1
      · injection hv with hv; rw [hv] at e1
        injection e1 with e1
        have e1 : k = g := e1
        subst e1
        rw [hk] at hh
        injection hh with hh
        exact hne _ _ hh
  have step : ∀ p, Lib.BuilderAtF 69 5 B b p (Lib.byteCells l) w → Lib.BuilderAtF 69 5 B b p (Lib.byteCells l) w' := by
    rintro p ⟨hB, v, hb, ⟨hl, hown⟩, hne⟩
    refine ⟨hB, v, key _ _ hb (fun cur fz e1 => ?_), ⟨hl, ?_⟩, hne⟩
    · injection e1 with _ e1; exact hT e1.symm
    rcases hown with hn | ⟨g, cap, cur, fz, hv, hbg, hg, rest⟩
    · exact .inl hn
    · exact .inr ⟨g, cap, cur, fz, hv, hbg, key _ _ hg (fun cur fz e1 => by injection e1 with _ e1; exact he e1.symm), rest⟩
  rcases h with h | h
  · exact .inl (step _ h)
  · exact .inr (step _ h)
end
end Go.Proofs.Ytfdfpimilmhhoaa
