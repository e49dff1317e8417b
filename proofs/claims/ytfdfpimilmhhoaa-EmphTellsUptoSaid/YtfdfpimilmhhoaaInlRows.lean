/-
  The Book with lists of texts: kept, and copies of them.
-/
import Derived.Test.YtfdfpimilmhhoaaInlName
import Derived.Test.YtfdfpimilmhhoaaStepApp
import Derived.Test.YtfdfpimilmhhoaaSameInls
import Derived.Deep.RegionHeld3
import Derived.Deep.RegionLaw
import Derived.Deep.Cut
namespace Go.Proofs.Ytfdfpimilmhhoaa
open Go.RowKit
set_option linter.unusedVariables false

theorem Try.infoInlss : (Try.prog.info? 51).map (fun i => (i.zero, i.size, i.bytes)) = some (some (.slice none 0 0), 1, 24) := by kernel_rfl
theorem Try.elInlss : Elem Try.prog 33 51 1 24 := Elem.mk' Try.underlying33 Try.infoInlss rfl (by decide)
/-- a list of texts in memory -/
structure LRow where
  a : Option Addr
  c : Nat
  xs : List Inl
def LRow.cell (r : LRow) : Value := .slice r.a r.xs.length r.c
def lrowCells (rs : List LRow) : List Value := rs.map LRow.cell
/-- the lists' own rows -/
def LRows (w : World) (base : Nat) (rs : List LRow) : Prop := (∀ r ∈ rs, Own w base 95 5 r.a r.xs.length r.c (inlCells r.xs)) ∧ rs.Pairwise (fun p q => Sep p.a q.a)
def lbkCells (v1 v2 : Value) : Array Value := #[.slice none 0 0, .slice none 0 0, .slice none 0 0, .slice none 0 0, .slice none 0 0, .slice none 0 0, v1, v2, .slice none 0 0, .slice none 0 0, .slice none 0 0, .slice none 0 0, .slice none 0 0, .slice none 0 0, .slice none 0 0, .slice none 0 0]
/-- the Book: the lists, the copies -/
structure LBk (w : World) (base g : Nat) (ls ws : List LRow) : Prop where
  bg : base ≤ g
  ex : ∃ A1 c1 A2 c2, Blk w g 39 (lbkCells (.slice A1 ls.length c1) (.slice A2 ws.length c2)) ∧ Own w base 51 1 A1 ls.length c1 (lrowCells ls) ∧ Own w base 51 1 A2 ws.length c2 (lrowCells ws) ∧ Sep A1 A2
/-- lists of texts stay -/
def KeepIl (w w' : World) : Prop := ∀ b A n c xs, Own w b 95 5 A n c xs → Own w' b 95 5 A n c xs
theorem KeepIl.trans {a b c : World} (h : KeepIl a b) (k : KeepIl b c) : KeepIl a c := fun _ _ _ _ _ o => k _ _ _ _ _ (h _ _ _ _ _ o)
theorem own_setL {w : World} {base e size n c g t : Nat} {A : Option Addr} {xs : List Value} {cs : Array Value} (h : Own w base e size A n c xs) (hb : Blk w g t cs) (hne : e ≠ t) (i : Nat) (u : Value) : Own (w.setCell ⟨g, i, none⟩ u) base e size A n c xs :=
  h.only (only_setCell w g i u) (fun a b ha hb2 => by
    injection hb2 with hb2
    rw [← hb2]
    exact h.blk_ne hb hne a ha)
theorem lrowCells_one (rs : List LRow) : ∀ u ∈ lrowCells rs, u.oneCell' = true := by
  intro u hu
  obtain ⟨r, _, rfl⟩ := List.mem_map.1 hu
  rfl

set_option maxHeartbeats 1000000 in
set_option maxRecDepth 100000 in
theorem copyInls_any (A : Option Addr) (n c K : Nat) (xs : List Inl) (w : World) (hr : Reads w K 5 A n (inlCells xs)) (hn : n ≤ 1048576) :
    Calls Try.prog 70 #[.slice A n c] w fun e w' => ∃ A' c', e = .returned (.slice A' n c') ∧ Own w' w.heap.size 95 5 A' n c' (inlCells xs) ∧ Below w.heap.size w w' := by
  go_enter Try.func70, Try.ntmps70
  go_wp2_with (at_builtin; refine wpList_app Try.elInls rfl (.const (.slice none 0 0)) (.tmp 3) rfl rfl (Own.nil _ w.heap.size _ _) rfl hr (inl_one _) (by simp only [maxLen]; omega) (by omega) (Nat.le_refl _) ?_
               intro A6 c6 w6 hown6 ho6 hm6
               rw [Nat.zero_add, List.nil_append] at hown6)
  go_ret
  exact ⟨A6, c6, rfl, hown6, ho6.below (fun a ha => by cases ha) (Nat.le_refl _)⟩

set_option maxHeartbeats 4000000 in
set_option maxRecDepth 100000 in
theorem inls_any (w : World) (base g : Nat) (ls ws : List LRow) (A : Option Addr) (n c : Nat) (xs : List Inl) (h : LBk w base g ls ws) (hls : ls.length < 250) (hws : ws.length < 250) (hA : Own w base 95 5 A n c (inlCells xs)) (hn : n ≤ 1048576) (hbw : base ≤ w.heap.size) :
    Calls Try.prog 22 #[.pointer (some ⟨g, 0, none⟩), .slice A n c] w fun e w' => e = .returned (.tuple #[]) ∧ ∃ A' c', LBk w' base g (ls ++ [⟨A, c, xs⟩]) (ws ++ [⟨A', c', xs⟩]) ∧ Own w' w.heap.size 95 5 A' n c' (inlCells xs) ∧ KeepIl w w' ∧ Below base w w' ∧ w.heap.size ≤ w'.heap.size := by
  obtain ⟨hbg, A1, c1, A2, c2, hB, hO1, hO2, hs12⟩ := h
  have hlen : xs.length = n := by have := hA.len; rw [flat_length _ 5 inl_len] at this; omega
  have HL := Lib.hid hlen
  clear hlen
  obtain ⟨n1, hn1⟩ : ∃ n1, ls.length = n1 := ⟨_, rfl⟩
  obtain ⟨n2, hn2⟩ : ∃ n2, ws.length = n2 := ⟨_, rfl⟩
  rw [hn1] at hB hO1 hls
  rw [hn2] at hB hO2 hws
  have HN1 := Lib.hid hn1
  have HN2 := Lib.hid hn2
  clear hn1 hn2
  have k0 : w.cell? ⟨g, 0 + 6, none⟩ = some (.slice A1 n1 c1) := hB.cell 6
  have hne1 := Lib.hid (hO1.blk_ne hB (by decide))
  go_enter Try.func22, Try.ntmps22
  go_upto_region 2 with (at_builtin; refine wpList_app1 Try.elInlss rfl (.tmp 14) (.tmp 16) rfl rfl (by exact hO1.alloc _) rfl (Blk.new' _ _ _ _ (by simp)) rfl (by simp [Value.oneCell']) (by simp only [maxLen]; omega) (by omega) (by simp; omega) ?_
                         intro A3 c3 w3 hO3 ho3 hm3
                         have hB3 := (hB.alloc (.cells #[.slice A n c] 51)).only ho3 hne1.out
                         have z0 : w3.cell? ⟨g, 0 + 6, none⟩ = some (.slice A1 n1 c1) := hB3.cell 6
                         have z1 := hB3.frozen 6)
  have hB4 : Blk (w3.setCell ⟨g, 6, none⟩ (.slice A3 (n1 + 1) c3)) g 39 (lbkCells (.slice A3 (n1 + 1) c3) (.slice A2 n2 c2)) := hB3.set_ 6 _
  have hO34 := own_setL hO3 hB3 (by decide) 6 (.slice A3 (n1 + 1) c3)
  have hO23 := (hO2.alloc (.cells #[.slice A n c] 51)).only ho3 hs12.symm
  have hO24 := own_setL hO23 hB3 (by decide) 6 (.slice A3 (n1 + 1) c3)
  have HK4 : Hid (KeepIl w (w3.setCell ⟨g, 6, none⟩ (.slice A3 (n1 + 1) c3))) := Lib.hid fun b B m d ys o =>
    own_setL ((o.alloc (.cells #[.slice A n c] 51)).only ho3 (o.sep_ne hO1 (by decide))) hB3 (by decide) 6 _
  have hA4 := HK4.out _ _ _ _ _ hA
  have hs32 : Sep A3 A2 := hs12.moved hm3 (K := (w.alloc (.cells #[.slice A n c] 51)).heap.size) (fun b hb => by have := (hO2.lt hb).2; simp; omega) (Nat.le_refl _)
  have bb4 : Below base w (w3.setCell ⟨g, 6, none⟩ (.slice A3 (n1 + 1) c3)) := ((ho3.of_alloc.below (fun a ha => (hO1.lt ha).1) hbw)).setCell (p := ⟨g, 6, none⟩) hbg _
  have hz4 : w.heap.size ≤ (w3.setCell ⟨g, 6, none⟩ (.slice A3 (n1 + 1) c3)).heap.size := by have := ho3.size; simp [World.setCell] at this ⊢; omega
  clear hB hO1 hO2 hO3 hO23 hB3 z0 z1 k0 hs12 hA
  generalize w3.setCell ⟨g, 6, none⟩ (.slice A3 (n1 + 1) c3) = w4 at *
  have HCP := Lib.hid (copyInls_any A n c _ xs w4.drew hA4.reads.drew hn)
  have p1 : w4.cell? ⟨g, 0 + 7, none⟩ = some (.slice A2 n2 c2) := hB4.cell 7
  have hg4 := hB4.lt
  have hne2 := Lib.hid (hO24.blk_ne hB4 (by decide))
  go_region_law (first
    | (refine step_app1 Try.elInlss rfl (.tmp 24) (.tmp 27) rfl rfl (by exact hO25.alloc _) rfl (Blk.new' _ _ _ _ (by simp)) rfl (by simp [Value.oneCell']) (by simp only [maxLen]; omega) (by omega) (by simp; omega) ?_
       intro A6 c6 w6 hO6 ho6 hm6
       have hB6 := (hB5.alloc (.cells #[.slice A' n c'] 51)).only ho6 hne2.out
       have z0 := hB6.frozen 7
       have z1 : w6.cell? ⟨g, 7, none⟩ = some (.slice A2 n2 c2) := hB6.cell 7)
    | (go_simp
       go_at_call 70
       refine Calls.mono HCP.out ?_
       rintro e w5 ⟨A', c', rfl, o5, b0⟩
       have b5 := below_of_drew b0
       have hB5 := hB4.below b5 hg4
       have hO25 := hO24.below b5 (Nat.le_refl _)
       have hz5 := b5.size
       have zz : w5.cell? ⟨g, 0 + 7, none⟩ = some (.slice A2 n2 c2) := hB5.cell 7
       have zy : (w5.alloc (.cells #[.slice A' n c'] 51)).cell? ⟨g, 0 + 7, none⟩ = some (.slice A2 n2 c2) := (hB5.alloc _).cell 7))
  all_goals
    go_wp2_with fail
    go_end0
    refine ⟨rfl, A', c', ⟨hbg, A3, c3, A6, c6, ?_, ?_, ?_, ?_⟩, ?_, ?_, ?_, ?_⟩
    · have := hB6.set_ 7 (.slice A6 (n2 + 1) c6)
      rw [List.length_append, List.length_append, HN1.out, HN2.out]
      exact this
    · have h5 := (hO34.below b5 (Nat.le_refl _)).alloc (.cells #[.slice A' n c'] 51)
      have h6 := own_setL (h5.only ho6 hs32) hB6 (by decide) 7 (.slice A6 (n2 + 1) c6)
      rw [List.length_append, HN1.out]
      simpa [lrowCells, LRow.cell, HL.out] using h6
    · have h6 := own_setL hO6 hB6 (by decide) 7 (.slice A6 (n2 + 1) c6)
      rw [List.length_append, HN2.out]
      simpa [lrowCells, LRow.cell, HL.out] using h6
    · exact (hs32.symm.moved hm6 (K := (w5.alloc (.cells #[.slice A' n c'] 51)).heap.size) (fun b hb => by have := (hO34.lt hb).2; simp; omega) (Nat.le_refl _)).symm
    · have h5 := (o5.alloc (.cells #[.slice A' n c'] 51)).only ho6 (o5.sep_ne hO25 (by decide))
      exact (own_setL h5 hB6 (by decide) 7 _).base_le hz4
    · refine HK4.out.trans fun b B m d ys o => ?_
      have h5 := (o.below b5 (Nat.le_refl _)).alloc (.cells #[.slice A' n c'] 51)
      exact own_setL (h5.only ho6 ((o.below b5 (Nat.le_refl _)).sep_ne hO25 (by decide))) hB6 (by decide) 7 _
    · have h5 : Below base w4 w5 := b5.mono (show base ≤ w4.heap.size by omega)
      have h6 : Below base w5 w6 := ho6.of_alloc.below (fun a ha => (hO25.lt ha).1) (by omega)
      exact (bb4.trans (h5.trans h6)).setCell (p := ⟨g, 7, none⟩) hbg _
    · have := ho6.size
      simp [World.setCell] at this ⊢
      omega
end Go.Proofs.Ytfdfpimilmhhoaa
