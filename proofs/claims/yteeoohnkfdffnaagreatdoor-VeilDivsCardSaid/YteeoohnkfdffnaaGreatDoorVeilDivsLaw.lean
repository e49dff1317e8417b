/-
  A division that is not seen, whatever lies in it.
-/
import Derived.Test.YteeoohnkfdffnaaGreatDoorVeilTwiceLaw
import Derived.Test.YteeoohnkfdffnaaGreatDoorRepMid
namespace Go.Proofs.YteeoohnkfdffnaaGreatDoor
set_option linter.unusedVariables false

/-! ## repair, line by line -/
theorem decodeL_10 {q : List UInt8} (hq : q ≠ []) (y : List UInt8) : Lib.decodeL (q ++ 10 :: y) = Lib.decodeL q := by
  rw [Lib.decodeL_N, Lib.decodeL_N q]
  match q with
  | [a] => simp [Lib.decodeN]
  | [a, b] => simp [Lib.decodeN]
  | [a, b, c] => simp [Lib.decodeN]
  | a :: b :: c :: d :: z =>
    simp only [List.cons_append, List.getD_cons_zero, List.getD_cons_succ, List.length_cons, List.length_append]
    unfold Lib.decodeN
    have e1 : (1 < z.length + (y.length + 1) + 1 + 1 + 1 + 1) = (1 < z.length + 1 + 1 + 1 + 1) := propext ⟨fun _ => by omega, fun _ => by omega⟩
    have e2 : (2 < z.length + (y.length + 1) + 1 + 1 + 1 + 1) = (2 < z.length + 1 + 1 + 1 + 1) := propext ⟨fun _ => by omega, fun _ => by omega⟩
    have e3 : (3 < z.length + (y.length + 1) + 1 + 1 + 1 + 1) = (3 < z.length + 1 + 1 + 1 + 1) := propext ⟨fun _ => by omega, fun _ => by omega⟩
    simp only [e1, e2, e3]
def cfB (d : Nat) : List UInt8 := if d = 0 ∨ d = 65533 then [239, 191, 189] else if d = 13 then [10] else Lib.encodeRune (d : Int)
def repN : Nat → List UInt8 → List UInt8
  | 0, _ => []
  | _ + 1, [] => []
  | f + 1, b :: r => cfB (Lib.decodeL (b :: r)).1 ++ repN f ((b :: r).drop (Lib.decodeL (b :: r)).2)
theorem dec_pos (l : List UInt8) : 1 ≤ (Lib.decodeL l).2 := by rw [Lib.decodeL_N]; exact Lib.decodeN_ge1 _ _ _ _ _
theorem repN_fuel : ∀ (f g : Nat) (l : List UInt8), l.length ≤ f → l.length ≤ g → repN f l = repN g l
  | 0, 0, _, _, _ => rfl
  | 0, g + 1, l, h, _ => by rw [List.eq_nil_of_length_eq_zero (by omega : l.length = 0)]; rfl
  | f + 1, 0, l, _, h => by rw [List.eq_nil_of_length_eq_zero (by omega : l.length = 0)]; rfl
  | f + 1, g + 1, [], _, _ => rfl
  | f + 1, g + 1, b :: r, h1, h2 => by
    have hp := dec_pos (b :: r)
    simp only [List.length_cons] at h1 h2
    rw [repN, repN, repN_fuel f g _ (by rw [List.length_drop, List.length_cons]; omega) (by rw [List.length_drop, List.length_cons]; omega)]
theorem repT_repN {l : List UInt8} (h : (13 : UInt8) ∉ l) : repT (S l) = repN l.length l := by
  have key : ∀ (f pos : Nat), pos ≤ l.length → l.length ≤ f + pos → textF (S l) f pos = repN f (l.drop pos) := by
    intro f
    induction f with
    | zero =>
      intro pos h1 h2
      rfl
    | succ f ih =>
      intro pos h1 h2
      rw [textF]
      by_cases hp : pos < l.length
      · rw [if_pos (by rw [size_S]; exact hp)]
        obtain ⟨b0, r0, hd⟩ : ∃ b0 r0, l.drop pos = b0 :: r0 := ⟨_, _, List.drop_eq_getElem_cons hp⟩
        have hr : runeP (S l) pos = cfB (Lib.decodeL (l.drop pos)).1 := by
          unfold runeP cfB
          rw [decode_drop, L_S]
          split
          · rfl
          · split
            · rfl
            · rw [if_neg]
              rintro ⟨_, h3, h4⟩
              exact h (List.mem_of_getElem? h4)
        have hle := Lib.decodeL_le (l.drop pos) (by rw [hd]; simp)
        rw [List.length_drop] at hle
        rw [hr, decode_drop, L_S, ih (pos + (Lib.decodeL (l.drop pos)).2) (by omega) (by have := dec_pos (l.drop pos); omega)]
        conv => rhs; rw [hd, repN, ← hd]
        rw [List.drop_drop]
      · rw [if_neg (by rw [size_S]; exact hp), List.drop_of_length_le (by omega)]
        rfl
  have := key l.length 0 (Nat.zero_le _) (by omega)
  unfold repT
  rw [size_S]
  simpa using this
theorem repN_10 (y : List UInt8) : ∀ (n : Nat) (x : List UInt8), x.length ≤ n → repN (x ++ 10 :: y).length (x ++ 10 :: y) = repN x.length x ++ 10 :: repN y.length y
  | n, [], _ => by
    have hd : Lib.decodeL (10 :: y) = (10, 1) := by rw [Lib.decodeL_N]; rfl
    rw [List.nil_append, List.length_cons, repN, hd]
    have : cfB 10 = [10] := by decide
    rw [this]; rfl
  | 0, b :: r, h => by simp at h
  | n + 1, b :: r, h => by
    have hd := decodeL_10 (q := b :: r) (by simp) y
    have hp := dec_pos (b :: r)
    have hle := Lib.decodeL_le (b :: r) (by simp)
    simp only [List.length_cons] at h hle
    rw [List.cons_append, List.length_cons, repN, ← List.cons_append, hd, List.drop_append_of_le_length (by simpa using hle)]
    rw [repN_fuel _ ((b :: r).drop (Lib.decodeL (b :: r)).2 ++ 10 :: y).length _ (by simp; omega) (Nat.le_refl _), repN_10 y n _ (by rw [List.length_drop, List.length_cons]; omega)]
    conv => rhs; rw [List.length_cons, repN, List.append_assoc]
    rw [repN_fuel ((b :: r).drop (Lib.decodeL (b :: r)).2).length r.length _ (Nat.le_refl _) (by rw [List.length_drop, List.length_cons]; omega)]
theorem repT_lines : ∀ (ls : List (List UInt8)) (t : List UInt8), (∀ x ∈ ls, (13 : UInt8) ∉ x) → (13 : UInt8) ∉ t → repT (S (joinT ls ++ t)) = joinT (ls.map fun x => repT (S x)) ++ repT (S t)
  | [], t, _, _ => rfl
  | x :: ls, t, h, ht => by
    have h1 := h x (by simp)
    have h2 := repT_lines ls t (fun y hy => h y (by simp [hy])) ht
    have e1 : joinT (x :: ls) ++ t = x ++ 10 :: (joinT ls ++ t) := by simp [joinT]
    have hall : (13 : UInt8) ∉ joinT ls ++ t := by
      rw [List.mem_append, not_or]
      refine ⟨fun hm => ?_, ht⟩
      obtain ⟨y, hy, hy2⟩ := List.mem_flatMap.1 hm
      rcases List.mem_append.1 hy2 with h3 | h3
      · exact h y (by simp [hy]) h3
      · simp at h3
    rw [e1, repT_repN, repN_10 _ _ _ (Nat.le_refl _), ← repT_repN h1, ← repT_repN hall, h2]
    · simp [joinT]
    · simp only [List.mem_append, List.mem_cons, not_or] at hall ⊢
      exact ⟨h1, by decide, hall.1, hall.2⟩
theorem repN_head (l : List UInt8) (hne : l ≠ []) (h13 : (13 : UInt8) ∉ l) : (∃ b r, l = b :: r ∧ repN l.length l = b :: repN r.length r) ∨ ∃ c z, repN l.length l = c :: z ∧ 128 ≤ c.toNat := by
  match l, hne with
  | b :: r, _ =>
    rw [List.length_cons, repN]
    obtain ⟨⟨da, db⟩, _⟩ := decode_span (S (b :: r)) 0 (by rw [size_S]; simp)
    have hdd : Utf8.decode (S (b :: r)) 0 = Lib.decodeL (b :: r) := by rw [decode_drop, L_S, List.drop_zero]
    rw [hdd] at da db
    simp only [L_S, List.getElem_cons_zero] at da db
    by_cases hb : b.toNat < 128
    · have hd := da hb
      rw [hd]
      by_cases h0 : b = 0
      · right
        subst h0
        exact ⟨239, _, rfl, by decide⟩
      · left
        refine ⟨b, r, rfl, ?_⟩
        have h1 : b ≠ 13 := fun e => h13 (by rw [e]; simp)
        have hn0 : b.toNat ≠ 0 := fun e => h0 (UInt8.toNat_inj.1 e)
        have hn13 : b.toNat ≠ 13 := fun e => h1 (UInt8.toNat_inj.1 e)
        have hc : cfB b.toNat = [b] := by
          unfold cfB
          rw [if_neg (by omega), if_neg hn13]
          unfold Lib.encodeRune
          rw [Lib.encodeRuneZ_one (by omega) (by omega)]
          simp
        rw [hc]; rfl
    · have hd := db (by omega)
      right
      unfold cfB
      split
      · exact ⟨239, _, rfl, by decide⟩
      · rename_i h1
        rw [if_neg (by omega)]
        rw [Lib.encode_decode (b :: r) (by simp) (fun h => h1 (.inr h.1))]
        have hp := dec_pos (b :: r)
        obtain ⟨k, hk⟩ : ∃ k, (Lib.decodeL (b :: r)).2 = k + 1 := ⟨(Lib.decodeL (b :: r)).2 - 1, by omega⟩
        rw [hk, List.take_succ_cons]
        exact ⟨b, _, rfl, by omega⟩
/-- signs ahead are there behind repair just if they were ahead of it -/
theorem rep_colons {l : List UInt8} (h13 : (13 : UInt8) ∉ l) (h : Lib.hasPrefix (repT (S l)) [58, 58, 58] = true) : Lib.hasPrefix l [58, 58, 58] = true := by
  rw [repT_repN h13] at h
  have key : ∀ (k : Nat) (l : List UInt8), (13 : UInt8) ∉ l → (List.replicate k (58 : UInt8)).isPrefixOf (repN l.length l) = true → (List.replicate k (58 : UInt8)).isPrefixOf l = true := by
    intro k
    induction k with
    | zero => intro l _ _; rfl
    | succ k ih =>
      intro l h1 h2
      by_cases hl : l = []
      · subst hl; exact h2
      · rcases repN_head l hl h1 with ⟨b, r, rfl, e⟩ | ⟨c, z, e, hc⟩
        · rw [e, List.replicate_succ] at h2
          rw [List.replicate_succ]
          simp only [List.isPrefixOf, Bool.and_eq_true] at h2 ⊢
          exact ⟨h2.1, ih r (fun hm => h1 (by simp [hm])) h2.2⟩
        · rw [e, List.replicate_succ] at h2
          simp only [List.isPrefixOf, Bool.and_eq_true, beq_iff_eq] at h2
          rw [← h2.1] at hc
          exact absurd hc (by decide)
  exact key 3 l h13 h

/-! ## a line that begins with no signs neither opens nor shuts -/
theorem no_colons {l : List UInt8} (h : Lib.hasPrefix l [58, 58, 58] = false) : (opensT l).2 = false ∧ shutsT l = false := by
  have key : ∀ m, Lib.trimRightB l 32 = 58 :: 58 :: 58 :: m → Lib.hasPrefix l [58, 58, 58] = true := fun m e => by
    obtain ⟨k, hk⟩ := trimR_split l
    rw [hk, e]; rfl
  constructor
  · rw [← Bool.not_eq_true]
    intro ho
    rw [key _ (opens_true ho).1] at h
    cases h
  · rw [← Bool.not_eq_true]
    intro ho
    unfold shutsT at ho
    rw [key [] (of_decide_eq_true ho)] at h
    cases h

/-! ## the document -/
def lowB : ByteArray := ⟨#[58, 58, 58, 123, 108, 111, 119, 125]⟩
def rightL : ByteArray := ⟨#[58, 58, 58, 123, 114, 105, 103, 104, 116, 125]⟩
def opnB (x : ByteArray) : Bool := Lib.hasPrefix (Lib.trimRightB (L x) 32) [58, 58, 58]
def divB (x : ByteArray) : ByteArray := if opnB x then lowB else S (Lib.trimRightB (L x) 32)
def opnN (xs : List ByteArray) : Nat := (xs.filter opnB).length
structure DInv (st : FrS) (m : Nat) : Prop where
  ex : ∃ rest ins', st.out = ⟨0, true, ⟨#[114, 105, 103, 104, 116]⟩, true, []⟩ :: rest ∧ (∀ p ∈ rest, 1 ≤ p.depth) ∧ st.ins = 0 :: ins' ∧ ins'.length = m ∧ (∀ i ∈ ins', 1 ≤ i) ∧ (st.run = true → rest ≠ [])
theorem dinv_start : DInv (frStep ⟨[], [], false⟩ rightL) 0 := by
  have h : (opensT (L rightL)) = ([114, 105, 103, 104, 116], true) := by decide +kernel
  refine ⟨[], [], ?_, by simp, ?_, rfl, by simp, ?_⟩
  · unfold frStep; rw [h]; rfl
  · unfold frStep; rw [h]; rfl
  · unfold frStep; rw [h]; intro h2; cases h2
theorem DInv.inner {st : FrS} {m : Nat} (h : DInv st m) (s : ByteArray) (hs : shutsT (L s) = false) : DInv (frStep st s) (if (opensT (L s)).2 then m + 1 else m) := by
  obtain ⟨rest, ins', h1, h2, h3, h4, h5, h6⟩ := h.ex
  cases ho : (opensT (L s)).2
  · simp only [Bool.false_eq_true, if_false]
    unfold frStep
    rw [ho, hs]
    simp only [Bool.false_eq_true, if_false, Bool.false_and]
    cases hr : st.run
    · simp only [Bool.false_eq_true, if_false]
      refine ⟨rest ++ [⟨(st.ins.length : Int), false, ⟨#[]⟩, false, [s]⟩], ins', by rw [h1]; rfl, fun p hp => ?_, h3, h4, h5, fun _ => by simp⟩
      rcases List.mem_append.1 hp with hp | hp
      · exact h2 p hp
      · rw [List.mem_singleton.1 hp, h3]; simp; omega
    · simp only [if_true]
      have hne := h6 hr
      obtain ⟨ini, q, e⟩ : ∃ ini q, rest = ini ++ [q] := by
        rcases List.eq_nil_or_concat rest with h | ⟨ini, q, h⟩
        · exact absurd h hne
        · exact ⟨ini, q, by rw [h, List.concat_eq_append]⟩
      subst e
      refine ⟨ini ++ [{ q with lines := q.lines ++ [s] }], ins', ?_, fun p hp => ?_, h3, h4, h5, fun _ => by simp⟩
      · simp only
        unfold addLast
        rw [h1, ← List.cons_append, List.getLast?_concat, List.dropLast_concat]
        rfl
      · rcases List.mem_append.1 hp with hp | hp
        · exact h2 p (by simp [hp])
        · rw [List.mem_singleton.1 hp]; exact h2 q (by simp)
  · simp only [if_true]
    unfold frStep
    rw [ho]
    simp only [if_true]
    refine ⟨rest ++ [⟨(st.ins.length : Int), true, S (opensT (L s)).1, true, []⟩], ins' ++ [st.out.length], by rw [h1]; rfl, fun p hp => ?_, by rw [h3]; rfl, by simp [h4], fun i hi => ?_, fun h => by cases h⟩
    · rcases List.mem_append.1 hp with hp | hp
      · exact h2 p hp
      · rw [List.mem_singleton.1 hp, h3]; simp; omega
    · rcases List.mem_append.1 hi with hi | hi
      · exact h5 i hi
      · rw [List.mem_singleton.1 hi, h1]; simp
theorem sh_facts : (opensT (L shutB)).2 = false ∧ shutsT (L shutB) = true := by decide +kernel
theorem DInv.shut {st : FrS} {m : Nat} (h : DInv st (m + 1)) : DInv (frStep st shutB) m := by
  obtain ⟨rest, ins', h1, h2, h3, h4, h5, h6⟩ := h.ex
  obtain ⟨f1, f2⟩ := sh_facts
  obtain ⟨ini, j, e⟩ : ∃ ini j, ins' = ini ++ [j] := by
    rcases List.eq_nil_or_concat ins' with h | ⟨ini, q, h⟩
    · rw [h] at h4; simp at h4
    · exact ⟨ini, q, by rw [h, List.concat_eq_append]⟩
  subst e
  have hj := h5 j (by simp)
  have e1 : frStep st shutB = ⟨shutAt st.out j, 0 :: ini, false⟩ := by
    unfold frStep
    rw [f1, f2, h3]
    simp only [Bool.false_eq_true, if_false, List.length_cons, Nat.zero_lt_succ, decide_true, Bool.and_self, if_true]
    rw [← List.cons_append, List.getLast?_concat, List.dropLast_concat]
    rfl
  rw [e1]
  obtain ⟨j, rfl⟩ : ∃ q, j = q + 1 := ⟨j - 1, by omega⟩
  have e2 : ∃ rest2, shutAt st.out (j + 1) = ⟨0, true, ⟨#[114, 105, 103, 104, 116]⟩, true, []⟩ :: rest2 ∧ ∀ p ∈ rest2, 1 ≤ p.depth := by
    unfold shutAt
    rw [h1, List.getElem?_cons_succ]
    cases hg : rest[j]? with
    | none => exact ⟨rest, rfl, h2⟩
    | some q =>
      refine ⟨rest.set j { q with opn := false }, rfl, fun p hp => ?_⟩
      rcases List.mem_or_eq_of_mem_set hp with hp | rfl
      · exact h2 p hp
      · exact h2 q (List.mem_of_getElem? hg)
  obtain ⟨rest2, e3, e4⟩ := e2
  exact ⟨rest2, ini, e3, e4, rfl, by simp at h4; omega, fun i hi => h5 i (by simp [hi]), fun h => by cases h⟩
theorem DInv.last {st : FrS} (h : DInv st 0) : ∃ rest, frStep st shutB = ⟨⟨0, true, ⟨#[114, 105, 103, 104, 116]⟩, false, []⟩ :: rest, [], false⟩ ∧ ∀ p ∈ rest, 1 ≤ p.depth := by
  obtain ⟨rest, ins', h1, h2, h3, h4, h5, h6⟩ := h.ex
  obtain ⟨f1, f2⟩ := sh_facts
  have : ins' = [] := List.eq_nil_of_length_eq_zero h4
  subst this
  refine ⟨rest, ?_, h2⟩
  unfold frStep
  rw [f1, f2, h3]
  simp only [Bool.false_eq_true, if_false, List.length_cons, List.length_nil, Nat.zero_lt_succ, decide_true, Bool.and_self, if_true]
  unfold shutAt
  rw [h1]
  rfl
theorem DInv.inners : ∀ (ls : List ByteArray) (st : FrS) (m : Nat), DInv st m → (∀ s ∈ ls, shutsT (L s) = false) → DInv (ls.foldl frStep st) (m + (ls.filter fun s => (opensT (L s)).2).length)
  | [], st, m, h, _ => h
  | s :: ls, st, m, h, hs => by
    have h1 := h.inner s (hs s (by simp))
    have h2 := DInv.inners ls _ _ h1 (fun x hx => hs x (by simp [hx]))
    rw [List.foldl_cons, List.filter_cons]
    cases ho : (opensT (L s)).2
    · rw [ho] at h2; exact h2
    · rw [ho] at h2
      simp only [if_true, List.length_cons] at h2 ⊢
      rw [show m + ((ls.filter fun s => (opensT (L s)).2).length + 1) = m + 1 + (ls.filter fun s => (opensT (L s)).2).length by omega]
      exact h2
theorem DInv.shuts : ∀ (k : Nat) (st : FrS), DInv st k → DInv ((List.replicate k shutB).foldl frStep st) 0
  | 0, st, h => h
  | k + 1, st, h => by
    rw [List.replicate_succ, List.foldl_cons]
    exact DInv.shuts k _ h.shut
/-- the parts that are kept of such lines -/
theorem divs_fold (v : List ByteArray → Bool) (hv : v [⟨#[114, 105, 103, 104, 116]⟩] = false) (ls : List ByteArray) (k : Nat) (hs : ∀ s ∈ ls, shutsT (L s) = false) (hk : (ls.filter fun s => (opensT (L s)).2).length = k) (ts : List ByteArray)
    (ht : ts = [] ∨ ∃ t, ts = [t] ∧ (opensT (L t)).2 = false ∧ shutsT (L t) = false) :
    (foldG v (frT ([rightL] ++ ls ++ List.replicate (k + 1) shutB ++ ts)).out).out = ⟨0, true, ⟨#[114, 105, 103, 104, 116]⟩, false, []⟩ :: (match ts with | [] => [] | t :: _ => [⟨0, false, ⟨#[]⟩, false, [lineP v t []]⟩]) := by
  have e1 : frT ([rightL] ++ ls ++ List.replicate (k + 1) shutB ++ ts) = ts.foldl frStep (frStep ((List.replicate k shutB).foldl frStep (ls.foldl frStep (frStep ⟨[], [], false⟩ rightL))) shutB) := by
    unfold frT
    rw [List.foldl_append, List.foldl_append, List.foldl_append]
    have : List.replicate (k + 1) shutB = List.replicate k shutB ++ [shutB] := by rw [List.replicate_succ']
    rw [this, List.foldl_append]
    rfl
  have h1 := DInv.inners ls _ 0 dinv_start hs
  rw [hk, Nat.zero_add] at h1
  have h2 := DInv.shuts k _ h1
  obtain ⟨rest, h3, h4⟩ := h2.last
  rw [e1, h3]
  have hd0 : stepG v ⟨[], [], -1⟩ ⟨0, true, ⟨#[114, 105, 103, 104, 116]⟩, false, []⟩ = ⟨[⟨0, true, ⟨#[114, 105, 103, 104, 116]⟩, false, []⟩], [⟨#[114, 105, 103, 104, 116]⟩], 0⟩ := by
    unfold stepG
    have : openU ⟨[], [], -1⟩ ⟨0, true, ⟨#[114, 105, 103, 104, 116]⟩, false, []⟩ = [⟨#[114, 105, 103, 104, 116]⟩] := rfl
    rw [this, hv]
    rfl
  have hrest : ∀ (l : List PartT) (st : VeS), st.hid = 0 → (∀ p ∈ l, 1 ≤ p.depth) → l.foldl (stepG v) st = st := by
    intro l
    induction l with
    | nil => intro st _ _; rfl
    | cons p l ih =>
      intro st h0 hp
      have : stepG v st p = st := by
        unfold stepG
        have hsk : skipT st p = true := by rw [skip_iff, h0]; have := hp p (by simp); omega
        rw [hsk]; rfl
      rw [List.foldl_cons, this]
      exact ih st h0 (fun q hq => hp q (by simp [hq]))
  rcases ht with rfl | ⟨t, rfl, t1, t2⟩
  · simp only [List.foldl_nil]
    unfold foldG
    rw [List.foldl_cons, hd0, hrest rest _ rfl h4]
  · have e2 : frStep ⟨⟨0, true, ⟨#[114, 105, 103, 104, 116]⟩, false, []⟩ :: rest, [], false⟩ t = ⟨⟨0, true, ⟨#[114, 105, 103, 104, 116]⟩, false, []⟩ :: rest ++ [⟨0, false, ⟨#[]⟩, false, [t]⟩], [], true⟩ := by
      unfold frStep
      rw [t1, t2]; rfl
    rw [List.foldl_cons, List.foldl_nil, e2]
    simp only
    unfold foldG
    rw [List.foldl_append]
    rw [List.foldl_cons (l := rest), hd0, hrest rest _ rfl h4]
    rfl
/-- lines, and what may stand behind the last sign -/
theorem linesT_tail (ls : List (List UInt8)) (t : List UInt8) (h : ∀ x ∈ ls, (10 : UInt8) ∉ x) (ht : (10 : UInt8) ∉ t) : linesT (joinT ls ++ t) = ls ++ if t = [] then [] else [t] := by
  unfold linesT
  rw [split10_joinT ls t h ht, List.getLast?_concat]
  by_cases h0 : t = []
  · subst h0; simp
  · rw [if_neg (by simp [h0]), if_neg h0]
theorem repT_no10 {l : List UInt8} (h10 : (10 : UInt8) ∉ l) (h13 : (13 : UInt8) ∉ l) : (10 : UInt8) ∉ repT (S l) := by
  obtain ⟨m, e, hm⟩ := repT_mid [] l [] (by simp) (fun b hb => ⟨fun e => h10 (by rw [← e]; exact hb), fun e => h13 (by rw [← e]; exact hb)⟩) (by simp)
  simp only [List.nil_append, List.append_nil] at e
  rw [e]; exact hm
theorem trimR_mem {l : List UInt8} {b : UInt8} (h : b ∈ Lib.trimRightB l 32) : b ∈ l := by
  obtain ⟨k, hk⟩ := trimR_split l
  rw [hk]; simp [h]
def docD (xs : List ByteArray) (t : ByteArray) : ByteArray := S (joinT ([L rightL] ++ xs.map (fun x => L (divB x)) ++ List.replicate (opnN xs + 1) (L shutB)) ++ L t)
set_option maxHeartbeats 2000000 in
theorem divs_law (v : List ByteArray → Bool) (hv : v [⟨#[114, 105, 103, 104, 116]⟩] = false) (xs : List ByteArray) (t : ByteArray) (hx : ∀ x ∈ xs, (10 : UInt8) ∉ L x ∧ (13 : UInt8) ∉ L x) (ht : lowT (L t) = true) :
    docP v (docD xs t) = S (joinT ([L rightL, L shutB] ++ if L t = [] then [] else [L t])) := by
  have hdiv : ∀ x ∈ xs, (10 : UInt8) ∉ L (divB x) ∧ (13 : UInt8) ∉ L (divB x) := fun x hx1 => by
    obtain ⟨a, b⟩ := hx x hx1
    unfold divB
    split
    · exact ⟨by decide, by decide⟩
    · rw [L_S]; exact ⟨fun h => a (trimR_mem h), fun h => b (trimR_mem h)⟩
  have ht13 : (13 : UInt8) ∉ L t := low_not ht 13 (by decide)
  have ht10 : (10 : UInt8) ∉ L t := low_not ht 10 (by decide)
  have ht58 : (58 : UInt8) ∉ L t := low_not ht 58 (by decide)
  have hgt : Good (L t) := by
    have : ∀ l : List UInt8, lowT l = true → Good l := by
      intro l
      induction l with
      | nil => intro _; exact .nil
      | cons b r ih =>
        intro hl
        have hb := low_mem hl (b := b) (by simp)
        have hr : lowT r = true := by unfold lowT at hl ⊢; rw [List.all_cons, Bool.and_eq_true] at hl; exact hl.2
        have hc : Chunk [b] := by
          have hd : Lib.decodeL [b] = (b.toNat, 1) := by
            rw [Lib.decodeL_N]; unfold Lib.decodeN; rw [if_pos (by simp; omega)]; rfl
          refine ⟨by simp, by rw [hd]; rfl, by rw [hd]; simp; omega, by rw [hd]; simp; omega, by rw [hd]; simp; omega⟩
        exact .cons hc (ih hr)
    exact this _ ht
  have hrt : repT (S (L t)) = L t := repT_good hgt
  have hR : repT (S (L rightL)) = L rightL := by decide +kernel
  have hS : repT (S (L shutB)) = L shutB := by decide +kernel
  have hLow : repT (S (L lowB)) = L lowB := by decide +kernel
  have hrep : repT (docD xs t) = joinT ([L rightL] ++ xs.map (fun x => repT (S (L (divB x)))) ++ List.replicate (opnN xs + 1) (L shutB)) ++ L t := by
    unfold docD
    rw [repT_lines _ _ (fun y hy => ?_) ht13, hrt]
    · rw [List.map_append, List.map_append, List.map_replicate, hS, List.map_cons, List.map_nil, hR, List.map_map]
      rfl
    · rcases List.mem_append.1 hy with hy | hy
      · rcases List.mem_append.1 hy with hy | hy
        · rw [List.mem_singleton.1 hy]; decide
        · obtain ⟨x, hx1, rfl⟩ := List.mem_map.1 hy
          exact (hdiv x hx1).2
      · rw [(List.mem_replicate.1 hy).2]; decide
  -- the lines
  obtain ⟨ls, hls⟩ : ∃ ls, xs.map (fun x => S (repT (S (L (divB x))))) = ls := ⟨_, rfl⟩
  have hlines : linesB (S (repT (docD xs t))) = [rightL] ++ ls ++ List.replicate (opnN xs + 1) shutB ++ (if L t = [] then [] else [t]) := by
    unfold linesB
    rw [L_S, hrep, linesT_tail _ _ (fun y hy => ?_) ht10]
    · rw [List.map_append, List.map_append, List.map_append, List.map_replicate, S_L, List.map_cons, List.map_nil, S_L, List.map_map, ← hls]
      split <;> simp
    · rcases List.mem_append.1 hy with hy | hy
      · rcases List.mem_append.1 hy with hy | hy
        · rw [List.mem_singleton.1 hy]; decide
        · obtain ⟨x, hx1, rfl⟩ := List.mem_map.1 hy
          obtain ⟨a, b⟩ := hdiv x hx1
          exact repT_no10 a b
      · rw [(List.mem_replicate.1 hy).2]; decide
  have hline : ∀ x ∈ xs, (opensT (repT (S (L (divB x))))).2 = opnB x ∧ shutsT (repT (S (L (divB x)))) = false := fun x hx1 => by
    cases ho : opnB x
    · have hd : divB x = S (Lib.trimRightB (L x) 32) := by unfold divB; rw [ho]; rfl
      have h13 := (hdiv x hx1).2
      rw [hd, L_S] at h13 ⊢
      have : Lib.hasPrefix (repT (S (Lib.trimRightB (L x) 32))) [58, 58, 58] = false := by
        rw [← Bool.not_eq_true]
        intro hp
        have := rep_colons h13 hp
        unfold opnB at ho
        rw [this] at ho; cases ho
      exact no_colons this
    · have hd : divB x = lowB := by unfold divB; rw [ho]; rfl
      rw [hd, hLow]
      decide +kernel
  have hcount : (ls.filter fun s => (opensT (L s)).2).length = opnN xs := by
    have hf : xs.filter ((fun s => (opensT (L s)).2) ∘ fun x => S (repT (S (L (divB x))))) = xs.filter opnB := by
      refine List.filter_congr fun x hx1 => ?_
      have h1 := (hline x hx1).1
      simp only [Function.comp_apply]
      rw [L_S (repT (S (L (divB x))))]
      exact h1
    rw [← hls, List.filter_map, List.length_map, hf]
    rfl
  have hshut : ∀ s ∈ ls, shutsT (L s) = false := fun s hs => by
    rw [← hls] at hs
    obtain ⟨x, hx1, rfl⟩ := List.mem_map.1 hs
    rw [L_S]; exact (hline x hx1).2
  have hts : (opensT (L t)).2 = false ∧ shutsT (L t) = false := by
    refine no_colons ?_
    rw [← Bool.not_eq_true]
    intro hp
    obtain ⟨z, hz⟩ := List.isPrefixOf_iff_prefix.1 hp
    exact ht58 (by rw [← hz]; simp)
  have hfold := divs_fold v hv ls (opnN xs) hshut hcount (if L t = [] then [] else [t]) (by
    split
    · exact .inl rfl
    · exact .inr ⟨t, rfl, hts.1, hts.2⟩)
  have hparts : partsOf (docD xs t) = (frT ([rightL] ++ ls ++ List.replicate (opnN xs + 1) shutB ++ (if L t = [] then [] else [t]))).out := by
    unfold partsOf; rw [hlines]
  have hpl : lineP v t [] = t := by
    unfold lineP
    have hp : plainT7 (L t) := fun i hi => absurd (List.mem_of_getElem? hi) (low_not ht 123 (by decide))
    cases hh : headedT (L t) with
    | none => simp only; rw [rwL_plainT _ _ hp, S_L]
    | some p =>
      obtain ⟨a, lb⟩ := p
      obtain ⟨k, e, hl, hs⟩ := headed_some hh
      exact absurd (by rw [e]; simp [tailB]) (low_not ht 123 (by decide))
  have hd : docP v (docD xs t) = S (joinT ((lines6 (foldG v (partsOf (docD xs t))).out).map L)) := by unfold docP; rw [docP_write]
  rw [hd, hparts, hfold]
  by_cases h0 : L t = []
  · rw [if_pos h0, if_pos h0]
    rfl
  · rw [if_neg h0, if_neg h0]
    simp only
    rw [hpl]
    rfl
end Go.Proofs.YteeoohnkfdffnaaGreatDoor
