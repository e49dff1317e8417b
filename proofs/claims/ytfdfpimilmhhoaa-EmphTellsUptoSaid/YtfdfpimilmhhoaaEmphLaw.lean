/-
  bowdlerlaw14.EmphTells: what its walk needs.
-/
import Derived.Test.YtfdfpimilmhhoaaRefGroup
import Derived.Test.YtfdfpimilmhhoaaInlApart
import Derived.Test.YtfdfpimilmhhoaaInlLent
import Derived.Test.YtfdfpimilmhhoaaInlRowsX
import Derived.Test.YtfdfpimilmhhoaaOpenInls
namespace Go.Proofs.Ytfdfpimilmhhoaa
open Go.RowKit
set_option linter.unusedVariables false

theorem Try.infoIts : (Try.prog.info? 54).map (fun i => (i.zero, i.size, i.bytes)) = some (some (.agg #[.int .u8 0, .int .i64 0, .bool false, .bool false, .slice none 0 0]), 5, 48) := by kernel_rfl
theorem Try.elIts : Elem Try.prog 50 54 5 48 := Elem.mk' Try.underlying50 Try.infoIts rfl (by decide)
theorem it_one (l : List Pc) : ∀ u ∈ l.flatMap itCells, u.oneCell' = true := by
  intro u hu
  obtain ⟨x, _, hx⟩ := List.mem_flatMap.1 hu
  simp only [itCells, List.mem_cons, List.not_mem_nil, or_false] at hx
  rcases hx with rfl | rfl | rfl | rfl | rfl <;> rfl
def wasCells (l : List Pc) : List Value := l.map (fun x => Value.slice x.A x.ln x.cp)
/-- what holds at each round's head: the first k items are lent -/
structure TellR (its : List Pc) (G m k : Nat) (A5 : Option Addr) (c5 : Nat) (A7 : Option Addr) (c7 : Nat) (Ai : Option Addr) (ci : Nat) (cur : List Pc) (w1 wr : World) : Prop where
  small : ∀ x ∈ its.take k, x.ln ≤ 20 ∧ x.n ≤ 40
  book : Blk wr G 39 (lbkCells (.slice none 0 0) (.slice none 0 0))
  r : Own wr (G + 1) 56 9 A5 k c5 (rlCells (its.take k))
  was : Own wr (G + 1) 51 1 A7 k c7 (wasCells (its.take k))
  inn : Own wr (G + 1) 54 5 Ai m ci (cur.flatMap itCells)
  era_ : cur.map era = its.map era
  lent : ∀ i x y, i < k → its[i]? = some x → cur[i]? = some y → y.ln = x.ln ∧ Own wr (G + 1) 95 5 y.A (x.ln + 1) y.cp (inlCells (x.l ++ [markL]))
  rest : ∀ i, k ≤ i → cur[i]? = its[i]?
  bel : Below G w1 wr
  size : G + 1 ≤ wr.heap.size
theorem Own.it {w : World} {base e n c g : Nat} {l : List Pc} (h : Own w base e 5 (some ⟨g, 0, none⟩) n c (l.flatMap itCells)) {i : Nat} {p : Pc} (hp : l[i]? = some p) :
    w.cell? ⟨g, i * 5, none⟩ = some (.int .u8 (p.sign.toNat : Int)) ∧ w.cell? ⟨g, i * 5 + 1, none⟩ = some (.int .i64 p.n) ∧ w.cell? ⟨g, i * 5 + 2, none⟩ = some (.bool p.opn) ∧
    w.cell? ⟨g, i * 5 + 3, none⟩ = some (.bool p.cls) ∧ w.cell? ⟨g, i * 5 + 4, none⟩ = some (.slice p.A p.ln p.cp) := by
  have tt := fun q (hq : q < 5) => flat_get itCells 5 it_len l i q hq hp
  exact ⟨h.cell (j := i * 5) (by have := tt 0 (by omega); rw [Nat.add_zero] at this; rw [this]; rfl), h.cell (j := i * 5 + 1) (by rw [tt 1 (by omega)]; rfl), h.cell (j := i * 5 + 2) (by rw [tt 2 (by omega)]; rfl), h.cell (j := i * 5 + 3) (by rw [tt 3 (by omega)]; rfl),
    h.cell (j := i * 5 + 4) (by rw [tt 4 (by omega)]; rfl)⟩

theorem era_at {its cur : List Pc} (he : cur.map era = its.map era) {i : Nat} {y : Pc} (hy : cur[i]? = some y) : ∃ x, its[i]? = some x ∧ y.n = x.n ∧ y.l = x.l ∧ y.left = x.left ∧ y.shut = x.shut := by
  have h : (its.map era)[i]? = some (era y) := by rw [← he, List.getElem?_map, hy]; rfl
  rw [List.getElem?_map] at h
  obtain ⟨x, hx, hxy⟩ := Option.map_eq_some_iff.1 h
  have h2 : era x = era y := hxy
  unfold era at h2
  simp only [Pc.mk.injEq] at h2
  obtain ⟨_, h3, _, _, _, _, _, h4, h5, h6⟩ := h2
  exact ⟨x, hx, h3.symm, h4.symm, h5.symm, h6.symm⟩
theorem rsmall_all {its : List Pc} (h : ∀ p ∈ its, Small p) : rnods its ≤ 61 * its.length ∧ rtxts its ≤ 9007199254740992 * its.length := by
  induction its with
  | nil => exact ⟨Nat.zero_le _, Nat.zero_le _⟩
  | cons p its ih =>
    obtain ⟨i1, i2⟩ := ih fun q hq => h q (by simp [hq])
    obtain ⟨h1, h2, h3, h4⟩ := h p (by simp)
    have hp : (rNodes p).length ≤ 61 ∧ txtLen (rNodes p) ≤ 9007199254740992 := by
      unfold rNodes
      split
      · exact ⟨by omega, h4⟩
      · refine ⟨by simp, ?_⟩
        simp [txtLen, pcText]; omega
    rw [rnods_cons, rtxts_cons, List.length_cons]
    omega
theorem rinv_of {its : List Pc} (h : ∀ p ∈ its, Small p) (hl : its.length ≤ 60) : RInv 1048576 1152921504606846976 its := by
  obtain ⟨_, _, h3⟩ := small_all h
  obtain ⟨r1, r2⟩ := rsmall_all h
  refine ⟨fun p hp => ?_, by omega, by omega, by omega⟩
  obtain ⟨q1, q2, _, _⟩ := h p hp
  refine ⟨by omega, by omega, ?_⟩
  unfold PcFit
  omega
theorem group_len {its : List Pc} (h : ∀ p ∈ its, Small p) (hl : its.length ≤ 30) : (groupT its).length ≤ 4000 := by
  obtain ⟨h1, h2, h3⟩ := small_all h
  have hG : GInv 4000 1152921504606846976 its := by
    refine ⟨fun p hp => ?_, by omega, by omega, by omega⟩
    obtain ⟨q1, q2, _, _⟩ := h p hp
    refine ⟨by omega, by omega, ?_⟩
    unfold PcFit
    omega
  have hR := gRun_ind (Inv := GInv 4000 1152921504606846976) (fun ps i hi h => gStep_inv h hi) (gMeas its 0 + 1) (its.map era) 0 (GInv_map_era hG)
  have h4 := hR.2.2.1
  unfold nods at h4
  unfold groupT
  exact Nat.le_trans (mergeT_len _) (by omega)
/-- what is kept up to the end -/
structure TellK (its cur : List Pc) (G k : Nat) (A5 : Option Addr) (c5 : Nat) (Ai : Option Addr) (ci : Nat) (W : World) : Prop where
  r : Own W (G + 1) 56 9 A5 k c5 (rlCells its)
  inn : Own W (G + 1) 54 5 Ai k ci (cur.flatMap itCells)
  lent : ∀ (i : Nat) (x y : Pc), its[i]? = some x → cur[i]? = some y → y.ln = x.ln ∧ Own W (G + 1) 95 5 y.A (x.ln + 1) y.cp (inlCells (x.l ++ [markL]))
theorem TellK.any {its cur : List Pc} {G k : Nat} {A5 : Option Addr} {c5 : Nat} {Ai : Option Addr} {ci : Nat} {W W' : World} (h : TellK its cur G k A5 c5 Ai ci W) (hk : KeepAny W W') : TellK its cur G k A5 c5 Ai ci W' :=
  ⟨hk _ _ _ _ _ _ _ (by decide) (by decide) h.r, hk _ _ _ _ _ _ _ (by decide) (by decide) h.inn, fun i x y h1 h2 => ⟨(h.lent i x y h1 h2).1, hk _ _ _ _ _ _ _ (by decide) (by decide) (h.lent i x y h1 h2).2⟩⟩
theorem TellK.below {its cur : List Pc} {G k : Nat} {A5 : Option Addr} {c5 : Nat} {Ai : Option Addr} {ci : Nat} {W W' : World} (h : TellK its cur G k A5 c5 Ai ci W) (hb : Below W.heap.size W W') : TellK its cur G k A5 c5 Ai ci W' :=
  ⟨h.r.below hb (Nat.le_refl _), h.inn.below hb (Nat.le_refl _), fun i x y h1 h2 => ⟨(h.lent i x y h1 h2).1, (h.lent i x y h1 h2).2.below hb (Nat.le_refl _)⟩⟩
theorem Own.readsTakeL {w : World} {base n d : Nat} {B : Option Addr} {xs : List Inl} (h : Own w base 95 5 B (n + 1) d (inlCells (xs ++ [markL]))) (hx : xs.length = n) : Reads w w.heap.size 5 B n (inlCells xs) := by
  have h1 := (h.take (m := n) (by omega)).reads
  rw [flat_take Inl.cells 5 inl_len, List.take_append_of_le_length (by omega), List.take_of_length_le (by omega)] at h1
  exact h1
theorem sameInls_true (A A' : Option Addr) (n c c' K : Nat) (xs : List Inl) (w : World) (ha : Reads w K 5 A n (inlCells xs)) (hb : Reads w K 5 A' n (inlCells xs)) (hn : n ≤ 1099511627776) :
    Calls Try.prog 25 #[.slice A n c, .slice A' n c'] w fun e w' => e = .returned (.bool true) ∧ ∃ m, w' = w.drewN m :=
  (sameInls_any A A' n n c c' K xs xs w ha hb hn hn).mono fun e w' h => ⟨by rw [h.1, decide_eq_true rfl], h.2⟩
theorem small_go {l : List Pc} {k : Nat} {x : Pc} {P : Pc → Prop} (h : ∀ y ∈ l.take k, P y) (hx : l[k]? = some x) (h1 : P x) : ∀ y ∈ l.take (k + 1), P y := by
  intro y hy
  rw [List.take_add_one, hx] at hy
  simp only [Option.toList_some, List.mem_append, List.mem_singleton] at hy
  rcases hy with hy | rfl
  · exact h y hy
  · exact h1

end Go.Proofs.Ytfdfpimilmhhoaa
