/-
  emph: two rows of one sign around a word: what Group makes of them, and what EmphPairs counts in it.
-/
import Derived.Test.YtlpkfeapgpkkhaaGroupMore
namespace Go.Proofs.Ytlpkfeapgpkkhaa
open Go.RowKit

def wordL (wd : ByteArray) : List Inl := [⟨1, 0, wd, ⟨#[]⟩, ⟨#[]⟩⟩]
def rowW (c : UInt8) (j : Nat) : List Inl := if j = 0 then [] else [⟨1, 0, S (List.replicate j c), ⟨#[]⟩, ⟨#[]⟩⟩]
def pairPcs (c : UInt8) (n m : Nat) (wd : ByteArray) : List Pc := [rowPc c n true false, ⟨0, 0, false, false, none, 0, 0, wordL wd, 0, false⟩, rowPc c m false true]
def ksOf (n m : Nat) : List Int := kinds 13 n m []
def pairsR (c : UInt8) (n m : Nat) (wd : ByteArray) : List Inl := rowW c (n - min n m) ++ (chain 0 wd (ksOf n m) ++ rowW c (m - min n m))
theorem pairs_raw (wd : ByteArray) (c : UInt8) (hc : c = 42 ∨ c = 95) (n m : Nat) (h : 1 ≤ n ∧ n ≤ 12 ∧ 1 ≤ m ∧ m ≤ 12) : (gRun (gMeas (pairPcs c n m wd) 0 + 1) (pairPcs c n m wd) 0).flatMap pcNodes = pairsR c n m wd := by
  obtain ⟨h1, h2, h3, h4⟩ := h
  rcases (by omega : n = 1 ∨ n = 2 ∨ n = 3 ∨ n = 4 ∨ n = 5 ∨ n = 6 ∨ n = 7 ∨ n = 8 ∨ n = 9 ∨ n = 10 ∨ n = 11 ∨ n = 12) with rfl | rfl | rfl | rfl | rfl | rfl | rfl | rfl | rfl | rfl | rfl | rfl <;>
  rcases (by omega : m = 1 ∨ m = 2 ∨ m = 3 ∨ m = 4 ∨ m = 5 ∨ m = 6 ∨ m = 7 ∨ m = 8 ∨ m = 9 ∨ m = 10 ∨ m = 11 ∨ m = 12) with rfl | rfl | rfl | rfl | rfl | rfl | rfl | rfl | rfl | rfl | rfl | rfl <;>
  rcases hc with rfl | rfl <;> kernel_rfl
theorem ks_fin : ∀ n m : Fin 13, 1 ≤ n.val → 1 ≤ m.val → ksOf n.val m.val ≠ [] ∧ (ksOf n.val m.val).countP (· == 4) = min n.val m.val / 2 ∧ (ksOf n.val m.val).countP (· == 3) = min n.val m.val % 2 ∧ (ksOf n.val m.val).all (fun k => k == 3 || k == 4) = true := by
  decide +kernel
theorem ks_law (n m : Nat) (h : 1 ≤ n ∧ n ≤ 12 ∧ 1 ≤ m ∧ m ≤ 12) : ksOf n m ≠ [] ∧ (ksOf n m).countP (· == 4) = min n m / 2 ∧ (ksOf n m).countP (· == 3) = min n m % 2 ∧ ∀ k ∈ ksOf n m, k = 3 ∨ k = 4 := by
  obtain ⟨h1, h2, h3, h4⟩ := ks_fin ⟨n, by omega⟩ ⟨m, by omega⟩ (by simp; omega) (by simp; omega)
  refine ⟨h1, h2, h3, fun k hk => ?_⟩
  have := List.all_eq_true.1 h4 k hk
  simpa using this

/-! ## nothing merges -/
theorem merge_one {x : Inl} (h : ¬ (x.kind = 1 ∧ x.text.size = 0)) (hc : cleanI x = x) : mergeT [x] = [x] := by
  simp only [mergeT, List.foldl_cons, List.foldl_nil]
  rw [mergeStep_new h (by intro t ht; cases ht), hc]; rfl
theorem merge_row (c : UInt8) (j : Nat) : mergeT (rowW c j) = rowW c j := by
  unfold rowW
  split
  · rfl
  · rename_i h
    exact merge_one (fun hh => h (by simpa using hh.2)) rfl
theorem row_head {c : UInt8} {j : Nat} {x : Inl} (h : x ∈ rowW c j) : x.depth = 0 ∧ x.kind = 1 := by
  unfold rowW at h
  split at h
  · cases h
  · simp at h; subst h; exact ⟨rfl, rfl⟩
theorem merge_chain {wd : ByteArray} (hw : ¬ wd.size = 0) (c : UInt8) (j : Nat) : ∀ (ks : List Int) (i : Nat), (∀ k ∈ ks, k = 3 ∨ k = 4) → 1 ≤ i → mergeT (chain i wd ks ++ rowW c j) = chain i wd ks ++ rowW c j
  | [], i, _, hi => by
    have e : mergeT (chain i wd []) = chain i wd [] := merge_one (fun hh => hw hh.2) rfl
    rw [mergeT_apart, e, merge_row]
    intro x hx t ht hc
    rw [merge_row] at hx
    rw [e] at ht
    have h1 := (row_head (List.mem_of_head? hx)).1
    simp only [chain, List.getLast?_singleton, Option.some.injEq] at ht
    subst ht
    simp only at hc
    omega
  | k :: ks, i, hk, hi => by
    have h1 : k ≠ 1 := by rcases hk k (by simp) with h | h <;> rw [h] <;> decide
    rw [chain, List.cons_append, mergeT_node _ _ h1, merge_chain hw c j ks (i + 1) (fun k hk' => hk k (by simp [hk'])) (by omega)]
theorem pairs_g (wd : ByteArray) (hw : ¬ wd.size = 0) (c : UInt8) (hc : c = 42 ∨ c = 95) (n m : Nat) (h : 1 ≤ n ∧ n ≤ 12 ∧ 1 ≤ m ∧ m ≤ 12) : groupT (pairPcs c n m wd) = pairsR c n m wd := by
  unfold groupT
  rw [show (pairPcs c n m wd).map era = pairPcs c n m wd from rfl, pairs_raw wd c hc n m h]
  obtain ⟨k1, _, _, k4⟩ := ks_law n m h
  unfold pairsR
  cases hks : ksOf n m with
  | nil => exact absurd hks k1
  | cons k ks =>
    rw [hks] at k4
    have hk : k ≠ 1 := by rcases k4 k (by simp) with h | h <;> rw [h] <;> decide
    rw [chain, List.cons_append]
    rw [mergeT_apart, merge_row, mergeT_node _ _ hk, merge_chain hw c _ ks (0 + 1) (fun k hk' => k4 k (by simp [hk'])) (by omega)]
    intro x hx t _ hcc
    rw [mergeT_node _ _ hk] at hx
    simp at hx
    subst hx
    exact hk hcc.1

/-! ## what is counted -/
def pfStep (wd : ByteArray) (p : Nat × Nat × Nat) (x : Inl) : Nat × Nat × Nat :=
  if x.kind = 4 then (p.1 + 1, p.2.1, p.2.2)
  else if x.kind = 3 then (p.1, p.2.1 + 1, p.2.2)
  else if x.kind = 1 then (p.1, p.2.1, if x.text = wd ∧ x.depth = ((p.1 : Int) + (p.2.1 : Int)) then p.2.2 else p.2.2 + x.text.size)
  else p
def pf (wd : ByteArray) (l : List Inl) : Nat × Nat × Nat := l.foldl (pfStep wd) (0, 0, 0)
theorem pf_take (wd : ByteArray) (l : List Inl) {k : Nat} {x : Inl} (hx : l[k]? = some x) : pf wd (l.take (k + 1)) = pfStep wd (pf wd (l.take k)) x := by
  rw [List.take_add_one, hx]; simp [pf, List.foldl_append]
theorem pf_bound (wd : ByteArray) (l : List Inl) : (pf wd l).1 + (pf wd l).2.1 ≤ l.length ∧ (pf wd l).2.2 ≤ txtLen l := by
  suffices h : ∀ (r : List Inl), (pf wd r.reverse).1 + (pf wd r.reverse).2.1 ≤ r.reverse.length ∧ (pf wd r.reverse).2.2 ≤ txtLen r.reverse by have := h l.reverse; simpa using this
  intro r
  induction r with
  | nil => exact ⟨Nat.zero_le _, Nat.zero_le _⟩
  | cons x r ih =>
    obtain ⟨i1, i2⟩ := ih
    rw [List.reverse_cons, txtLen_append]
    have e : pf wd (r.reverse ++ [x]) = pfStep wd (pf wd r.reverse) x := by simp [pf, List.foldl_append]
    rw [e]
    generalize pf wd r.reverse = p at *
    have e2 : txtLen [x] = x.text.size := by simp [txtLen]
    rw [e2, List.length_append, List.length_singleton]
    unfold pfStep
    split
    · simp only; omega
    · split
      · simp only; omega
      · split
        · simp only; split <;> omega
        · omega
theorem pf_chain (wd : ByteArray) : ∀ (ks : List Int) (i s e f : Nat), (∀ k ∈ ks, k = 3 ∨ k = 4) → s + e = i → (chain i wd ks).foldl (pfStep wd) (s, e, f) = (s + ks.countP (· == 4), e + ks.countP (· == 3), f)
  | [], i, s, e, f, _, h => by
    have : ((i : Nat) : Int) = ((s : Int) + (e : Int)) := by omega
    simp [chain, pfStep, this]
  | k :: ks, i, s, e, f, hk, h => by
    have ih := fun s e h' => pf_chain wd ks (i + 1) s e f (fun k hk' => hk k (by simp [hk'])) h'
    rcases hk k (by simp) with rfl | rfl
    · rw [chain, List.foldl_cons]
      have : pfStep wd (s, e, f) ⟨3, i, ⟨#[]⟩, ⟨#[]⟩, ⟨#[]⟩⟩ = (s, e + 1, f) := by simp [pfStep]
      rw [this, ih s (e + 1) (by omega)]
      simp; omega
    · rw [chain, List.foldl_cons]
      have : pfStep wd (s, e, f) ⟨4, i, ⟨#[]⟩, ⟨#[]⟩, ⟨#[]⟩⟩ = (s + 1, e, f) := by simp [pfStep]
      rw [this, ih (s + 1) e (by omega)]
      simp; omega
theorem pairs_count (wd : ByteArray) (c : UInt8) (n m : Nat) (h : 1 ≤ n ∧ n ≤ 12 ∧ 1 ≤ m ∧ m ≤ 12) :
    (pf wd (pairsR c n m wd)).1 = min n m / 2 ∧ (pf wd (pairsR c n m wd)).2.1 = min n m % 2 ∧
    ((n = m ∨ ∀ b r, L wd = b :: r → b ≠ c) → (pf wd (pairsR c n m wd)).2.2 = n + m - 2 * min n m) := by
  obtain ⟨k1, k2, k3, k4⟩ := ks_law n m h
  have hpos : 0 < min n m / 2 + min n m % 2 := by omega
  have e : ∃ f0 : Nat, pf wd (pairsR c n m wd) = (min n m / 2, min n m % 2, f0 + (m - min n m)) ∧ ((n = m ∨ ∀ b r, L wd = b :: r → b ≠ c) → f0 = n - min n m) := by
    have h1 : ∃ f0 : Nat, (rowW c (n - min n m)).foldl (pfStep wd) (0, 0, 0) = (0, 0, f0) ∧ ((n = m ∨ ∀ b r, L wd = b :: r → b ≠ c) → f0 = n - min n m) := by
      unfold rowW
      split
      · rename_i h0; exact ⟨0, rfl, fun _ => h0.symm⟩
      · rename_i h0
        simp only [List.foldl_cons, List.foldl_nil]
        by_cases ht : S (List.replicate (n - min n m) c) = wd
        · refine ⟨0, by simp [pfStep, ht], fun hh => ?_⟩
          rcases hh with hh | hh
          · omega
          · obtain ⟨q, hq⟩ : ∃ q, n - min n m = q + 1 := ⟨n - min n m - 1, by omega⟩
            have : L wd = c :: List.replicate q c := by rw [← ht, L_S, hq]; rfl
            exact absurd rfl (hh c _ this)
        · refine ⟨n - min n m, by simp [pfStep, ht], fun _ => rfl⟩
    obtain ⟨f0, h1, h2⟩ := h1
    refine ⟨f0, ?_, h2⟩
    unfold pf pairsR
    rw [List.foldl_append, h1, List.foldl_append, pf_chain wd _ 0 0 0 f0 k4 rfl, k2, k3]
    unfold rowW
    split
    · rename_i h0; rw [h0]; simp
    · have hne : ¬ ((0 : Int) = (((0 + min n m / 2 : Nat) : Int) + ((0 + min n m % 2 : Nat) : Int))) := by omega
      simp only [List.foldl_cons, List.foldl_nil]
      unfold pfStep
      rw [if_neg (by simp), if_neg (by simp), if_pos rfl]
      simp only
      rw [if_neg (fun hh => hne hh.2)]
      simp
  obtain ⟨f0, e1, e2⟩ := e
  rw [e1]
  refine ⟨rfl, rfl, fun hh => ?_⟩
  have := e2 hh
  simp only
  omega
end Go.Proofs.Ytlpkfeapgpkkhaa
