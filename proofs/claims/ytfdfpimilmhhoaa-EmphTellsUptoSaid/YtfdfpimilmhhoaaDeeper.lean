/-
  emph.deeper: its contract: nodes that lie one deeper.
-/
import Derived.Test.YtfdfpimilmhhoaaInl
namespace Go.Proofs.Ytfdfpimilmhhoaa
open Go.RowKit

def deepT (l : List Inl) : List Inl := l.map (fun x => { x with depth := wrap64 (x.depth + 1) })

theorem Reads.inl {w : World} {B m : Nat} {A : Option Addr} {l : List Inl} (h : Reads w B 5 A m (inlCells l)) {i : Nat} {p : Inl} (hp : l[i]? = some p) : ∃ ad, A = some ad ∧ ad.block < B ∧ i < m ∧
    w.cell? (ad.add (i * 5)) = some (.int .i64 p.kind) ∧
    w.cell? ⟨(ad.add (i * 5)).block, (ad.add (i * 5)).off + 1, none⟩ = some (.int .i64 p.depth) ∧
    w.cell? ⟨(ad.add (i * 5)).block, (ad.add (i * 5)).off + 2, none⟩ = some (.string p.text) ∧
    w.cell? ⟨(ad.add (i * 5)).block, (ad.add (i * 5)).off + 3, none⟩ = some (.string p.url) ∧
    w.cell? ⟨(ad.add (i * 5)).block, (ad.add (i * 5)).off + 4, none⟩ = some (.string p.title) := by
  have hl : l.length = m := by have := h.1; rw [flat_length _ 5 inl_len] at this; omega
  have hi : i < m := by rw [← hl]; exact (List.getElem?_eq_some_iff.1 hp).1
  obtain ⟨ad, rfl, hb, hc0, hcj⟩ := h.elem hi
  have g := fun j (hj : j < 5) => flat_get Inl.cells 5 inl_len l i j hj hp
  exact ⟨ad, rfl, hb, hi, hc0 _ (by have := g 0 (by omega); rw [Nat.add_zero] at this; rw [this]; rfl), hcj 1 _ (by omega) (by rw [g 1 (by omega)]; rfl), hcj 2 _ (by omega) (by rw [g 2 (by omega)]; rfl), hcj 3 _ (by omega) (by rw [g 3 (by omega)]; rfl),
    hcj 4 _ (by omega) (by rw [g 4 (by omega)]; rfl)⟩

set_option maxHeartbeats 1000000 in
set_option maxRecDepth 100000 in
theorem deeper_any (A : Option Addr) (n c : Nat) (l : List Inl) (w : World) (hr : Reads w w.heap.size 5 A n (inlCells l)) (hn : n ≤ 1073741824) :
    Calls Try.prog 72 #[.slice A n c] w fun e w' => ∃ A' c', e = .returned (.slice A' n c') ∧ Own w' w.heap.size 95 5 A' n c' (inlCells (deepT l)) ∧ Below w.heap.size w w' := by
  have hlen : l.length = n := by have := hr.1; rw [flat_length _ 5 inl_len] at this; omega
  have HL := Lib.hid hlen
  clear hlen
  go_enter Try.func72, Try.ntmps72
  go_wp2
  go_loopw [3, 8] (fun out i wr => ∃ (k : Nat) (A1 : Option Addr) (c1 : Nat), k ≤ n ∧ i = .int .i64 k ∧ out = .slice A1 k c1 ∧ Own wr w.heap.size 95 5 A1 k c1 (inlCells (deepT (l.take k))) ∧ Below w.heap.size w wr)
    (fun _ i _ => n - (intOf i).toNat)
  case atStart => exact ⟨0, none, 0, Nat.zero_le _, rfl, rfl, Own.nil _ _ _ _, Below.refl _ _⟩
  case round =>
    obtain ⟨k, A1, c1, hk, rfl, rfl, hown, hb⟩ := hrel
    by_cases hlt : k < n
    · obtain ⟨x, hx⟩ : ∃ x, l[k]? = some x := ⟨_, List.getElem?_eq_getElem (by rw [HL.out]; omega)⟩
      obtain ⟨ad, rfl, _, _, g0, g1, g2, g3, g4⟩ := (hr.below hb).inl hx
      have hbs := hb.size
      have HK : Hid (deepT (l.take (k + 1)) = deepT (l.take k) ++ [{ x with depth := wrap64 (x.depth + 1) }]) := Lib.hid (by
        rw [List.take_add_one, hx]; simp [deepT])
      clear hx
      generalize deepT (l.take k) = kl at *
      go_wp2_with (at_builtin; refine wpList_app1 Try.elInls rfl (.tmp 16) (.tmp 18) rfl rfl (by exact (hown.alloc _).alloc _) rfl (Blk.new' _ _ _ _ (by simp)) rfl (by simp [Value.oneCell']) (by simp only [maxLen]; omega) (by omega) (by simp; omega) ?_
                   intro A1' c1' w1 hown1 ho1 hm1)
      go_roundw
      case rel =>
        refine ⟨k + 1, A1', c1', by omega, by go_num, rfl, ?_, hb.trans (ho1.of_alloc.of_alloc.below (fun a ha => (hown.lt ha).1) hbs)⟩
        rw [HK.out]
        simpa [inlCells, Inl.cells] using hown1
      case measure => simp [intOf]; omega
    · go_wp2_with fail
      go_ret
      have : k = n := by omega
      subst this
      rw [List.take_of_length_le (by rw [HL.out]; omega)] at hown
      exact ⟨A1, c1, rfl, hown, hb⟩
end Go.Proofs.Ytfdfpimilmhhoaa
