/-
  An append of one element inside a region that draws.
-/
import Derived.Test.YtfdfpimilmhhoaaMem
import Derived.Deep.RegionLaw
namespace Go.Proofs.Ytfdfpimilmhhoaa
open Go.RowKit

theorem Own.blk_ne {w : World} {base e size n c g t : Nat} {A : Option Addr} {xs : List Value} {cs : Array Value} (h : Own w base e size A n c xs) (hb : Blk w g t cs) (hne : e ≠ t) : ∀ a, A = some a → a.block ≠ g := by
  intro a ha e0
  rcases h.2 with ⟨h0, _⟩ | ⟨g', cap, cur, hv, _, hh, _⟩
  · injection h0 with h0; rw [h0] at ha; cases ha
  · injection hv with hv
    rw [hv] at ha; injection ha with ha
    rw [← ha] at e0
    have e1 : g' = g := e0
    rw [e1, hb] at hh
    injection hh with hh; injection hh with _ hh
    exact hne hh.symm

/-- 'append(s, x)' of one element, inside a region that draws -/
theorem step_app1 {P : Program} {w : World} {ops : Array Oper} {E' : Prop} {o : Oper} {a : Act} {K : Act → World → Prop} {Q : Exit → Act → World → Prop} {t e size bytes : Nat} (E : Elem P t e size bytes) (hgd : o.guard = none) (s x : Operand)
    (ho : o.op = .call { callee := .builtin .append, args := #[s, x], argTypes := #[t, t] })
    {base : Nat} {A : Option Addr} {n c : Nat} {xs : List Value} (hs : a.eval s = .slice A n c) (hown : Own w base e size A n c xs)
    {g : Nat} {cs : Array Value} (hx : a.eval x = .slice (some ⟨g, 0, none⟩) 1 1) (hg : Blk w g e cs) (hcs : cs.size = size) (h1 : ∀ u ∈ cs.toList, u.oneCell' = true)
    (h63 : n + 1 ≤ maxLen) (hbytes : (n + 1) * bytes ≤ 140737488355328) (hbase : base ≤ w.heap.size)
    (h : ∀ A' c' w', Own w' base e size A' (n + 1) c' (xs ++ cs.toList) → Only w w' A → Moved w A A' → K (a.put o.dst (.slice A' (n + 1) c')) w') :
    if Region.wanted o (yielded ops a.tmps) = true then Oper.wp P o a w K Q else E' := by
  have hw : Region.wanted o (yielded ops a.tmps) = true := by simp [Region.wanted, hgd]
  rw [if_pos hw]
  obtain ⟨i, z, hi, hz, hsize, hby, hzs⟩ := E.info
  have hr : Reads w w.heap.size size (some ⟨g, 0, none⟩) 1 cs.toList := ⟨by simp [hcs], fun _ => ⟨_, rfl, hg.lt, fun j u hu => by
    have : (⟨g, 0, none⟩ : Addr).add j = ⟨g, j, none⟩ := by unfold Addr.add; split <;> simp_all
    rw [this, hg.cell j]
    simpa using hu⟩⟩
  refine wp_append_any w s x t ho base e i z size bytes E.und hi hz hsize hby hzs E.pos _ n xs hs hown w.heap.size (some ⟨g, 0, none⟩) 1 1 cs.toList hx hr h1 h63 hbytes hbase (fun v' w' h2 h3 h4 => ?_)
  obtain ⟨A', c', rfl⟩ := slice_of_own h2
  rw [ownBlock_slice] at h3 h4
  rw [ownBlock_slice] at h4
  exact h A' c' w' h2 h3 h4

end Go.Proofs.Ytfdfpimilmhhoaa
