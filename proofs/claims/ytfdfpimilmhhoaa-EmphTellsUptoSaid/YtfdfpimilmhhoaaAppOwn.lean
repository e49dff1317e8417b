/-
  An append to an own row: it lies where it lay, or in a new row and nothing else was turned.
-/
import Derived.Test.YtfdfpimilmhhoaaMem
import Derived.ArgAppend
namespace Go.Proofs.Ytfdfpimilmhhoaa
open Go.RowKit
set_option linter.unusedVariables false

/-- where a grown row lies -/
def Grew (w w' : World) (A : Option Addr) (c : Nat) (A' : Option Addr) (c' : Nat) : Prop := (A' = A ∧ c' = c) ∨ (Only w w' none ∧ ∀ a, A' = some a → w.heap.size ≤ a.block)
theorem run_append_own {P : Program} {w : World} {t e size bytes : Nat} (ty : TypeId) (E : Elem P t e size bytes) {base : Nat} {A : Option Addr} {n c : Nat} {xs : List Value} (hown : Own w base e size A n c xs)
    {K : Nat} {B : Option Addr} {m d : Nat} {news : List Value} (hr : Reads w K size B m news) (h1 : ∀ u ∈ news, u.oneCell' = true) (hm : 0 < m)
    (h63 : n + m ≤ maxLen) (hbytes : (n + m) * bytes ≤ 140737488355328) (hbase : base ≤ w.heap.size) :
    ∃ A' c' w', (Builtin.append_ #[t, t] ty #[.slice A n c, .slice B m d]).run P w = .ok (.slice A' (n + m) c') w' ∧ Own w' base e size A' (n + m) c' (xs ++ news) ∧ Only w w' A ∧ Moved w A A' ∧ Grew w w' A c A' c' := by
  obtain ⟨i, z, hi, hz, hsize, hby, hzs⟩ := E.info
  obtain ⟨v', w', hrun, h2, h3, h4⟩ := run_append_any (P := P) w base t ty e i z size bytes E.und hi hz hsize hby hzs E.pos _ n xs hown K B m d news hr h1 h63 hbytes hbase
  obtain ⟨A', c', rfl⟩ := slice_of_own h2
  rw [ownBlock_slice] at h3 h4
  rw [ownBlock_slice] at h4
  refine ⟨A', c', w', hrun, h2, h3, h4, ?_⟩
  cases A with
  | none =>
    refine .inr ⟨h3, fun a ha => ?_⟩
    subst ha
    rcases h4 with h4 | h4
    · cases h4
    · injection h4 with h4
      exact Nat.le_of_eq h4.symm
  | some ad =>
    obtain ⟨bd, hB, hbK, hbc⟩ := hr.2 hm
    subst hB
    rcases hown.2 with ⟨hv, _⟩ | ⟨g, cap, cur, hv, hbg, hg, hnc, hcm, hcs, htake⟩
    · cases hv
    · injection hv with hv1 hv2 hv3
      injection hv1 with hv1
      subst hv1
      subst hv3
      have hlen := hown.len
      have hold : ∀ j u, xs[j]? = some u → w.cell? ((⟨g, 0, none⟩ : Addr).add j) = some u := hown.cells (g := g) rfl
      by_cases hroom : n + m ≤ c
      · have hroomc := run_append_room_cells (P := P) (w := w) t ty e i E.und hi g 0 n c bd m d news (by rw [hr.1, hsize]) hbc h1 hroom
          (fun j hj => by
            rw [hr.1] at hj
            rw [cell_of_row w g _ cur e (0, 0) hg]
            have hlt : 0 + n * i.size + j < cur.size := by
              rw [hcs, hsize, Nat.zero_add]
              have : n * size + j < (n + m) * size := by rw [Nat.add_mul]; omega
              exact Nat.lt_of_lt_of_le this (Nat.mul_le_mul_right _ hroom)
            rw [Array.getElem?_eq_getElem hlt]; rfl)
          (fun j hj => frozen_of_row w g _ cur e hg)
        rw [hroomc] at hrun
        injection hrun with hv hw
        injection hv with hA hn hc
        exact .inl ⟨hA.symm, hc.symm⟩
      · obtain ⟨v2, w2, hrun2, ho2, hg2⟩ := run_append_arg_grows (P := P) (w := w) t ty e i z size bytes E.und hi hz hsize hby hzs E.pos ⟨g, 0, none⟩ n c xs hlen hold bd m d news hr.1 hbc (by omega) h63 hbytes
        rw [hrun2] at hrun
        injection hrun with hv hw
        subst hw
        subst hv
        exact .inr ⟨hg2, fun a ha => (Own.lt (w := w2) (base := w.heap.size) ho2 ha).1⟩
theorem wpList_appO {P : Program} {w : World} {ops : Array Oper} {rest : List Oper} {o : Oper} {a : Act} {Q : Exit → Act → World → Prop} {t e size bytes : Nat} (E : Elem P t e size bytes) (hgd : o.guard = none) (s x : Operand)
    (ho : o.op = .call { callee := .builtin .append, args := #[s, x], argTypes := #[t, t] })
    {base : Nat} {A : Option Addr} {n c : Nat} {xs : List Value} (hs : a.eval s = .slice A n c) (hown : Own w base e size A n c xs)
    {K : Nat} {B : Option Addr} {m d : Nat} {news : List Value} (hx : a.eval x = .slice B m d) (hr : Reads w K size B m news) (h1 : ∀ u ∈ news, u.oneCell' = true) (hm : 0 < m)
    (h63 : n + m ≤ maxLen) (hbytes : (n + m) * bytes ≤ 140737488355328) (hbase : base ≤ w.heap.size)
    (h : ∀ A' c' w', Own w' base e size A' (n + m) c' (xs ++ news) → Only w w' A → Moved w A A' → Grew w w' A c A' c' → wpList P ops Q rest (a.put o.dst (.slice A' (n + m) c')) w') : wpList P ops Q (o :: rest) a w := by
  obtain ⟨A', c', w', hrun, h2, h3, h4, h5⟩ := run_append_own (P := P) o.type E hown hr h1 hm h63 hbytes hbase
  refine wpList_plain hgd fun _ hK => ?_
  unfold Oper.wp execOp
  simp only [ho, resolve, invoke, builtin, Sem.run_bind, Sem.run_pure, Result.andThen_ok, List.map_toArray, List.map_cons, List.map_nil, hs, hx]
  rw [hrun]
  exact hK _ _ (h A' c' w' h2 h3 h4 h5)
/-- a row apart stays apart of the grown one -/
theorem Grew.sep {w w' : World} {A A' B : Option Addr} {c c' : Nat} (h : Grew w w' A c A' c') (hs : Sep B A) (hB : ∀ b, B = some b → b.block < w.heap.size) : Sep B A' := by
  rcases h with ⟨rfl, _⟩ | ⟨_, h2⟩
  · exact hs
  · intro b a hb ha e
    have h3 := hB b hb
    have h4 := h2 a ha
    omega
end Go.Proofs.Ytfdfpimilmhhoaa
