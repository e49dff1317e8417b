/-
  bowdlerlaw14.alive: it answers true.
-/
import Derived.Test.YtfdfpimilmhhoaaGroup
import Derived.Test.YtfdfpimilmhhoaaGroupMore
import Derived.Test.YtfdfpimilmhhoaaText
namespace Go.Proofs.Ytfdfpimilmhhoaa
open Go.RowKit

/-- a new block of cells, as a slice that can be read -/
theorem reads_new (w : World) (t : TypeId) (cs : Array Value) (size m g : Nat) (hs : cs.size = m * size) (hg : w.heap.size = g) : Reads (w.alloc (.cells cs t)) (g + 1) size (some ⟨g, 0, none⟩) m cs.toList := by
  subst hg
  refine ⟨by simp [hs], fun _ => ⟨_, rfl, by simp, fun j u hu => ?_⟩⟩
  have : (⟨w.heap.size, 0, none⟩ : Addr).add j = ⟨w.heap.size, j, none⟩ := by unfold Addr.add; split <;> simp_all
  rw [this, (Blk.new w t cs).cell j]
  simpa using hu

/-- what is small enough for Group -/
def Small (p : Pc) : Prop := p.left = max p.n 0 ∧ p.n ≤ 40 ∧ p.l.length ≤ 60 ∧ txtLen p.l ≤ 9007199254740992
theorem small_nodes {p : Pc} (h : Small p) : (pcNodes p).length ≤ 61 ∧ txtLen (pcNodes p) ≤ 9007199254740992 ∧ p.left.toNat ≤ 40 := by
  obtain ⟨h1, h2, h3, h4⟩ := h
  have hl : p.left ≤ 40 := by omega
  refine ⟨?_, ?_, by omega⟩
  · unfold pcNodes nodesT; split
    · omega
    · split <;> simp
  · unfold pcNodes nodesT; split
    · exact h4
    · split
      · simp [txtLen, pcText]; omega
      · simp [txtLen]
theorem small_all {its : List Pc} (h : ∀ p ∈ its, Small p) : nods its ≤ 61 * its.length ∧ txts its ≤ 9007199254740992 * its.length ∧ lefts its ≤ 40 * its.length := by
  induction its with
  | nil => exact ⟨Nat.zero_le _, Nat.zero_le _, Nat.zero_le _⟩
  | cons p its ih =>
    obtain ⟨i1, i2, i3⟩ := ih fun q hq => h q (by simp [hq])
    obtain ⟨p1, p2, p3⟩ := small_nodes (h p (by simp))
    rw [nods_cons, txts_cons, lefts_cons, List.length_cons]
    omega
theorem ginv_of {its : List Pc} (h : ∀ p ∈ its, Small p) (hl : its.length ≤ 60) : GInv 1048576 1152921504606846976 its := by
  obtain ⟨h1, h2, h3⟩ := small_all h
  refine ⟨fun p hp => ?_, by omega, by omega, by omega⟩
  obtain ⟨q1, q2, _, _⟩ := h p hp
  refine ⟨by omega, by omega, ?_⟩
  unfold PcFit
  omega
theorem small_row (s : UInt8) (n : Int) (o c : Bool) (h0 : 0 ≤ n) (h1 : n ≤ 40) : Small (rowPc s n o c) := ⟨by simp [rowPc]; omega, h1, by simp [rowPc], by simp [rowPc, txtLen]⟩
/-- a piece of nodes -/
def nodePc (A : Option Addr) (n c : Nat) (l : List Inl) : Pc := ⟨0, 0, false, false, A, n, c, l, 0, false⟩
theorem small_node (A : Option Addr) (n c : Nat) {l : List Inl} (h0 : l.length ≤ 60) (h1 : txtLen l ≤ 9007199254740992) : Small (nodePc A n c l) := ⟨rfl, by simp [nodePc], h0, h1⟩

theorem alive_g (A : Option Addr) (n c : Nat) : groupT [rowPc 42 2 true false, nodePc A n c [⟨1, 0, ⟨#[97]⟩, ⟨#[]⟩, ⟨#[]⟩⟩], rowPc 42 2 false true] = [⟨4, 0, ⟨#[]⟩, ⟨#[]⟩, ⟨#[]⟩⟩, ⟨1, 1, ⟨#[97]⟩, ⟨#[]⟩, ⟨#[]⟩⟩] := by
  rw [groupT_era]
  show groupT [rowPc 42 2 true false, nodePc none 0 0 [⟨1, 0, ⟨#[97]⟩, ⟨#[]⟩, ⟨#[]⟩⟩], rowPc 42 2 false true] = _
  decide +kernel

set_option maxHeartbeats 1000000 in
set_option maxRecDepth 100000 in
theorem alive_any (w : World) : Calls Try.prog 19 #[] w fun e w' => e = .returned (.bool true) ∧ Below w.heap.size w w' := by
  go_enter Try.func19, Try.ntmps19
  go_wp2_with fail
  have hs : ∀ p ∈ [rowPc 42 2 true false, nodePc (some ⟨w.heap.size, 0, none⟩) 1 1 [⟨1, 0, ⟨#[97]⟩, ⟨#[]⟩, ⟨#[]⟩⟩], rowPc 42 2 false true], Small p ∧ p.shut = false := by
    intro p hp
    simp only [List.mem_cons, List.not_mem_nil, or_false] at hp
    rcases hp with rfl | rfl | rfl
    · exact ⟨small_row _ _ _ _ (by omega) (by omega), rfl⟩
    · exact ⟨small_node _ _ _ (by simp) (by simp [txtLen]), rfl⟩
    · exact ⟨small_row _ _ _ _ (by omega) (by omega), rfl⟩
  refine (group_any (some ⟨w.heap.size + 1, 0, none⟩) 3 3 [rowPc 42 2 true false, nodePc (some ⟨w.heap.size, 0, none⟩) 1 1 [⟨1, 0, ⟨#[97]⟩, ⟨#[]⟩, ⟨#[]⟩⟩], rowPc 42 2 false true] _ ?_ ?_ ?_ ?_).mono ?_
  · exact (reads_new _ _ _ 5 3 _ rfl (by simp)).more (by simp)
  · intro p hp
    simp only [List.mem_cons, List.not_mem_nil, or_false] at hp
    rcases hp with rfl | rfl | rfl
    · exact Reads.none_
    · exact ((reads_new w _ _ 5 1 _ rfl rfl).alloc (by simp) _).more (by simp)
    · exact Reads.none_
  · exact fun p hp => ⟨(hs p hp).1.1, (hs p hp).2⟩
  · exact ginv_of (fun p hp => (hs p hp).1) (by simp)
  rintro e w1 ⟨A1, c1, rfl, hown, b1⟩
  rw [alive_g] at *
  have bb1 : Below w.heap.size w w1 := (((Below.refl _ _).alloc (Nat.le_refl _) _).alloc (by simp) _).trans (b1.mono (by simp; omega))
  clear b1 hs
  obtain ⟨g, rfl, _, _⟩ := hown.some_ (by simp)
  have c0 := hown.cell (j := 0) rfl
  have c1 := hown.cell (j := 1) rfl
  have c2 := hown.cell (j := 2) rfl
  have c3 := hown.cell (j := 3) rfl
  have c4 := hown.cell (j := 4) rfl
  have c5 := hown.cell (j := 5) rfl
  have c6 := hown.cell (j := 6) rfl
  have c7 := hown.cell (j := 7) rfl
  have c8 := hown.cell (j := 8) rfl
  have c9 := hown.cell (j := 9) rfl
  go_wp2_with fail
  refine (text_any _ 2 _ _ _ hown.reads (by omega) (by decide)).mono ?_
  rintro e w2 ⟨rfl, b2⟩
  have ht : S (textT [⟨4, 0, ⟨#[]⟩, ⟨#[]⟩, ⟨#[]⟩⟩, ⟨1, 1, ⟨#[97]⟩, ⟨#[]⟩, ⟨#[]⟩⟩]) = ⟨#[97]⟩ := rfl
  rw [ht]
  have bb2 := bb1.trans (b2.mono bb1.size)
  clear ht b2 hown c0 c1 c2 c3 c4 c5 c6 c7 c8 c9
  go_wp2_with fail
  go_ret
  exact ⟨rfl, bb2⟩
end Go.Proofs.Ytfdfpimilmhhoaa
