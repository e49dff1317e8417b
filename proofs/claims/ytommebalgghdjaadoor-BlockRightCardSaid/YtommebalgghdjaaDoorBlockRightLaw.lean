/-
  Plain law: the blocks of every lines may be; none lies deeper than it may.
-/
import Derived.Test.YtommebalgghdjaaDoorBlockApartLaw
import Derived.Test.YtommebalgghdjaaDoorBlockRight
namespace Go.Proofs.YtommebalgghdjaaDoor
set_option linter.unusedVariables false

structure St (d : Nat) (op0 : List BlockT) (pv : Option BlockT) (op : List BlockT) : Prop where
  take : op.take d = op0
  len : op0.length = d
  above : (d : Int) ≤ aboveT pv
/-- blocks that may stand where 'op0' lies about them -/
def RT (d : Nat) (op0 : List BlockT) (l : List BlockT) : Prop := ∀ pv op r, St d op0 pv op → ∃ pv' op', St d op0 pv' op' ∧ rightGo pv op (l ++ r) = rightGo pv' op' r
theorem RT.nil (d : Nat) (op0 : List BlockT) : RT d op0 [] := fun pv op r h => ⟨pv, op, h, rfl⟩
theorem RT.app {d : Nat} {op0 a b : List BlockT} (ha : RT d op0 a) (hb : RT d op0 b) : RT d op0 (a ++ b) := by
  intro pv op r h
  obtain ⟨pv1, op1, h1, e1⟩ := ha pv op (b ++ r) h
  obtain ⟨pv2, op2, h2, e2⟩ := hb pv1 op1 r h1
  exact ⟨pv2, op2, h2, by rw [List.append_assoc, e1, e2]⟩
/-- the innermost is no list -/
def NoList (op0 : List BlockT) : Prop := ∀ b, op0.getLast? = some b → b.kind ≠ 4
theorem opT_of {d : Nat} {op0 op : List BlockT} {pv : Option BlockT} (h : St d op0 pv op) {x : BlockT} (hx : x.depth = d) : opT op x = op0 ++ [x] := by
  unfold opT; rw [hx, Int.toNat_natCast, h.take]
theorem inList_of {d : Nat} {op0 op : List BlockT} {pv : Option BlockT} (h : St d op0 pv op) {x : BlockT} (hx : x.depth = d) : inListT op x = (match op0.getLast? with | some y => y.kind == 4 | none => false) := by
  unfold inListT
  rw [opT_of h hx, hx, Int.toNat_natCast]
  have hl := h.len
  cases d with
  | zero =>
    have : op0 = [] := List.eq_nil_of_length_eq_zero hl
    subst this
    rfl
  | succ d =>
    rw [decide_eq_true (by omega), Bool.true_and, Nat.add_sub_cancel, List.getElem?_append_left (by omega), List.getLast?_eq_getElem?, hl, Nat.add_sub_cancel]
    cases op0[d]? <;> rfl
theorem bad_of {d : Nat} {pv : Option BlockT} (ha : (d : Int) ≤ aboveT pv) {x : BlockT} (hx : x.depth = d) (hk : 1 ≤ x.kind ∧ x.kind ≤ 9) (h2 : x.kind = 2 → 1 ≤ x.n ∧ x.n ≤ 6) : badT pv x = false := by
  unfold badT
  rw [decide_eq_false (by omega), decide_eq_false (by omega), decide_eq_false (by omega), decide_eq_false (by omega)]
  by_cases hk2 : x.kind = 2
  · have := h2 hk2
    rw [decide_eq_false (by omega), decide_eq_false (by omega)]; simp
  · have : (x.kind == 2) = false := by simp [hk2]
    rw [this]; rfl
/-- a block in which nothing lies -/
theorem RT.leaf {d : Nat} {op0 : List BlockT} (hno : NoList op0) {x : BlockT} (hx : x.depth = d) (hk : 1 ≤ x.kind ∧ x.kind ≤ 9) (h4 : x.kind ≠ 4) (h5 : x.kind ≠ 5) (h2 : x.kind = 2 → 1 ≤ x.n ∧ x.n ≤ 6) : RT d op0 [x] := by
  intro pv op r h
  refine ⟨some x, opT op x, ⟨?_, h.len, ?_⟩, ?_⟩
  · rw [opT_of h hx, ← h.len, List.take_left]
  · show (d : Int) ≤ (if holdsT x then x.depth + 1 else x.depth)
    split <;> omega
  · have e5 : (x.kind == 5) = false := by simp [h5]
    have e4 : (x.kind == 4) = false := by simp [h4]
    have hin : inListT op x = false := by
      rw [inList_of h hx]
      cases hl : op0.getLast? with
      | none => rfl
      | some y => have := hno y hl; simp [this]
    rw [List.singleton_append, rightGo, bad_of h.above hx hk h2, if_neg (by (try unfold codeB); (try dsimp only); decide), hin, e5]
    unfold emptyT
    rw [e4]
    simp
/-- a block that holds others -/
theorem RT.holds {d : Nat} {op0 : List BlockT} {x : BlockT} (hin : (match op0.getLast? with | some y => y.kind == 4 | none => false) = (x.kind == 5)) (hx : x.depth = d) (hk : x.kind = 3 ∨ x.kind = 4 ∨ x.kind = 5)
    {l : List BlockT} (he : x.kind = 4 → ∃ y t, l = y :: t ∧ y.depth = d + 1) (hl : RT (d + 1) (op0 ++ [x]) l) : RT d op0 (x :: l) := by
  intro pv op r h
  have hh : holdsT x = true := by unfold holdsT; rcases hk with h | h | h <;> simp [h]
  have hS : St (d + 1) (op0 ++ [x]) (some x) (opT op x) := by
    refine ⟨by rw [opT_of h hx, List.take_of_length_le (by simp [h.len])], by simp [h.len], ?_⟩
    show ((d + 1 : Nat) : Int) ≤ (if holdsT x then x.depth + 1 else x.depth)
    rw [hh, if_pos rfl]; omega
  obtain ⟨pv', op', h', e'⟩ := hl (some x) (opT op x) r hS
  refine ⟨pv', op', ⟨?_, h.len, by have := h'.above; omega⟩, ?_⟩
  · have e := congrArg (List.take d) h'.take
    rw [List.take_take, Nat.min_eq_left (by omega), ← h.len, List.take_left] at e
    rw [← h.len]; exact e
  · have hem : emptyT x (l ++ r) = false := by
      unfold emptyT
      by_cases h4 : x.kind = 4
      · obtain ⟨y, t, rfl, hy⟩ := he h4
        rw [List.cons_append]
        have : (y.depth != x.depth + 1) = false := by rw [hy, hx]; simp
        simp [this]
      · have : (x.kind == 4) = false := by simp [h4]
        rw [this]; rfl
    have h2 : x.kind = 2 → 1 ≤ x.n ∧ x.n ≤ 6 := fun h => by
      rcases hk with h' | h' | h' <;> (rw [h'] at h; exact absurd h (by decide))
    have h19 : 1 ≤ x.kind ∧ x.kind ≤ 9 := by
      rcases hk with h' | h' | h' <;> (rw [h']; decide)
    rw [List.cons_append, rightGo, bad_of h.above hx h19 h2, if_neg (by (try unfold codeB); (try dsimp only); decide), inList_of h hx, hin, hem, ← e']
    simp
theorem heading_n {s : Ln} {lv : Nat} {tx : List UInt8} (h : headingT s = some (lv, tx)) : 1 ≤ lv ∧ lv ≤ 6 := by
  unfold headingT at h
  simp only at h
  obtain ⟨h1, h2⟩ := ite_some h
  have := congrArg Prod.fst h2
  simp only at this
  omega
theorem underT_le (s : Ln) : underT s ≤ 2 := by
  unfold underT
  simp only
  split
  · omega
  · split
    · omega
    · split <;> omega
theorem paraGo_lv (d : Nat) (l : List Ln) : (paraGo d l).2.1 ≤ 2 := by
  induction l with
  | nil => simp [paraGo]
  | cons s t ih =>
    unfold paraGo
    split
    · exact underT_le s
    · split
      · simp
      · exact ih
/-- what a block may be: deep as it may lie, with its text -/
def Fine (b : BlockT) : Prop := b.depth ≤ 12 ∧ b.kind ≠ 9 ∧ (b.kind = 1 → b.text ≠ [])
theorem items_RT (rc : Nat → List Ln → List BlockT) (d : Nat) (op0 : List BlockT) (hd : d ≤ 10) (hlen : op0.length = d + 1) (hl : ∃ y, op0.getLast? = some y ∧ y.kind = 4)
    (hrc : ∀ op ls, op.length = d + 2 → NoList op → RT (d + 2) op (rc (d + 2) ls) ∧ ∀ b ∈ rc (d + 2) ls, Fine b) (sign : UInt8) : ∀ (f : Nat) (l : List Ln), RT (d + 1) op0 (itemsT rc d sign f l).1 ∧ ∀ b ∈ (itemsT rc d sign f l).1, Fine b
  | 0, _ => ⟨RT.nil _ _, fun b hb => by cases hb⟩
  | f + 1, [] => ⟨RT.nil _ _, fun b hb => by cases hb⟩
  | f + 1, s :: t => by
    unfold itemsT
    split
    · exact ⟨RT.nil _ _, fun b hb => by cases hb⟩
    · rename_i c num cols rest he
      split
      · simp only
        obtain ⟨g1, g2⟩ := items_RT rc d op0 hd hlen hl hrc sign f ((t.drop (spanLines cols t).length).drop ((t.drop (spanLines cols t).length).takeWhile blankT).length)
        obtain ⟨k1, k2⟩ := hrc (op0 ++ [⟨5, (d : Int) + 1, 0, false, [], []⟩]) (rest :: (spanLines cols t).map fun s => stripT s (cols : Int)) (by simp [hlen]) (fun b hb => by
          rw [List.getLast?_append] at hb
          have : (⟨5, (d : Int) + 1, 0, false, [], []⟩ : BlockT) = b := by simpa using hb
          rw [← this]; (try dsimp only); decide)
        constructor
        · rw [← List.cons_append]
          refine RT.app (RT.holds ?_ (by simp) (.inr (.inr rfl)) (fun h => by cases h) k1) g1
          obtain ⟨y, hy, hk⟩ := hl
          rw [hy]
          simp [hk]
        · intro b hb
          rcases List.mem_cons.1 hb with rfl | hb
          · exact ⟨by show (d : Int) + 1 ≤ 12; omega, by (try unfold codeB); (try dsimp only); decide, fun h => by cases h⟩
          · rcases List.mem_append.1 hb with hb | hb
            · exact k2 b hb
            · exact g2 b hb
      · exact ⟨RT.nil _ _, fun b hb => by cases hb⟩
theorem items_first (rc : Nat → List Ln → List BlockT) (d : Nat) {s : Ln} {c : UInt8} {num : Int} {cols : Nat} {rest : Ln} (h : itemT s = some (c, num, cols, rest)) (f : Nat) (t : List Ln) : ∃ y l, (itemsT rc d c (f + 1) (s :: t)).1 = y :: l ∧ y.depth = d + 1 := by
  unfold itemsT
  rw [h]
  simp only [if_true]
  exact ⟨_, _, rfl, rfl⟩
theorem rest_head {s : Ln} (h : blankT s = false) : ∃ b t, restT s = b :: t ∧ b ≠ 32 ∧ b ≠ 9 := by
  have hn := restT_no s
  cases hr : restT s with
  | nil =>
    have : blankT s = true := by
      unfold restT at hr
      rw [dropWhile_nil] at hr
      unfold blankT
      rw [List.all_eq_true]
      exact hr
    rw [this] at h; cases h
  | cons b t =>
    rw [hr] at hn
    obtain ⟨h1, h2⟩ := hn b rfl
    exact ⟨b, t, rfl, h1, h2⟩
theorem trimR_ne {b : UInt8} (h1 : b ≠ 32) (h2 : b ≠ 9) {l : List UInt8} (h : b ∈ l) : Lib.trimRightS l [32, 9] ≠ [] := by
  intro h0
  have : b ∈ Lib.trimRightS l [32, 9] := by
    unfold Lib.trimRightS
    rw [List.mem_reverse]
    have : ∀ (l : List UInt8), b ∈ l → b ∈ l.dropWhile (fun c => ([32, 9] : List UInt8).contains c) := by
      intro l
      induction l with
      | nil => intro h; cases h
      | cons y l ih =>
        intro hb
        rw [List.dropWhile_cons]
        split
        · rename_i hy
          rcases List.mem_cons.1 hb with rfl | hb
          · simp [h1, h2] at hy
          · exact ih hb
        · exact hb
    exact this _ (by simpa using h)
  rw [h0] at this; cases this
theorem joinLF_head (b : UInt8) (t : Ln) (l : List Ln) : b ∈ joinLF ((b :: t) :: l) := by
  cases l with
  | nil => simp [joinLF]
  | cons y l => simp [joinLF]
theorem next_RT (rc : Nat → List Ln → List BlockT) (d : Nat) (op0 : List BlockT) (hd : d ≤ 12) (hlen : op0.length = d) (hno : NoList op0)
    (h1 : d ≤ 11 → ∀ op ls, op.length = d + 1 → NoList op → RT (d + 1) op (rc (d + 1) ls) ∧ ∀ b ∈ rc (d + 1) ls, Fine b)
    (h2 : d ≤ 10 → ∀ op ls, op.length = d + 2 → NoList op → RT (d + 2) op (rc (d + 2) ls) ∧ ∀ b ∈ rc (d + 2) ls, Fine b) (s : Ln) (t : List Ln) :
    RT d op0 (nextT rc d s t).1 ∧ ∀ b ∈ (nextT rc d s t).1, Fine b := by
  have hd' : (d : Int) ≤ 12 := by omega
  have one : ∀ (x : BlockT), x.depth = d → 1 ≤ x.kind ∧ x.kind ≤ 8 → x.kind ≠ 4 → x.kind ≠ 5 → (x.kind = 2 → 1 ≤ x.n ∧ x.n ≤ 6) → (x.kind = 1 → x.text ≠ []) → RT d op0 [x] ∧ ∀ b ∈ [x], Fine b := by
    intro x hx hk h4 h5 h2 h3
    refine ⟨RT.leaf hno hx (by omega) h4 h5 h2, fun b hb => ?_⟩
    rw [List.mem_singleton.1 hb]
    exact ⟨by omega, by omega, h3⟩
  have hin : (match op0.getLast? with | some y => y.kind == 4 | none => false) = false := by
    cases hl : op0.getLast? with
    | none => rfl
    | some y => have := hno y hl; simp [this]
  unfold nextT
  split
  · exact ⟨RT.nil _ _, fun b hb => by cases hb⟩
  rename_i hb
  split
  · exact one _ rfl (by (try unfold codeB); (try dsimp only); decide) (by (try unfold codeB); (try dsimp only); decide) (by (try unfold codeB); (try dsimp only); decide) (fun h => by cases h) (fun h => by cases h)
  split
  · exact one _ rfl (by (try unfold codeB); (try dsimp only); decide) (by (try unfold codeB); (try dsimp only); decide) (by (try unfold codeB); (try dsimp only); decide) (fun h => by cases h) (fun h => by cases h)
  split
  · rename_i lv tx hh
    have := heading_n hh
    exact one _ rfl (by (try unfold codeB); (try dsimp only); decide) (by (try unfold codeB); (try dsimp only); decide) (by (try unfold codeB); (try dsimp only); decide) (fun _ => by simp only; omega) (fun h => by cases h)
  split
  · exact one _ rfl (by (try unfold codeB); (try dsimp only); decide) (by (try unfold codeB); (try dsimp only); decide) (by (try unfold codeB); (try dsimp only); decide) (fun h => by cases h) (fun h => by cases h)
  split
  · rename_i hq
    have hd11 : d ≤ 11 := by unfold quotesT at hq; rw [Bool.and_eq_true, decide_eq_true_eq] at hq; omega
    obtain ⟨k1, k2⟩ := h1 hd11 (op0 ++ [⟨3, d, 0, false, [], []⟩]) (((s :: t).takeWhile fun x => (quoteT x).isSome).filterMap quoteT) (by simp [hlen]) (fun b hb => by
      rw [List.getLast?_append] at hb
      have : (⟨3, (d : Int), 0, false, [], []⟩ : BlockT) = b := by simpa using hb
      rw [← this]; (try dsimp only); decide)
    refine ⟨RT.holds (by rw [hin]; rfl) rfl (.inl rfl) (fun h => by cases h) k1, fun b hb => ?_⟩
    rcases List.mem_cons.1 hb with rfl | hb
    · exact ⟨hd', by (try unfold codeB); (try dsimp only); decide, fun h => by cases h⟩
    · exact k2 b hb
  split
  · rename_i hl
    have hd10 : d ≤ 10 := by unfold listsT at hl; rw [Bool.and_eq_true, decide_eq_true_eq] at hl; omega
    split
    · rename_i c num cols rest hi
      simp only
      generalize hlb : listB d num (((s :: t).take (itemsT rc d c (t.length + 1) (s :: t)).2).all fun x => !blankT x) c = lb
      have hk4 : lb.kind = 4 := by rw [← hlb]; rfl
      have hdp : lb.depth = d := by rw [← hlb]; rfl
      obtain ⟨k1, k2⟩ := items_RT rc d (op0 ++ [lb]) hd10 (by simp [hlen]) ⟨lb, by simp, hk4⟩ (h2 hd10) c (t.length + 1) (s :: t)
      obtain ⟨y, l, e, hy⟩ := items_first rc d hi t.length t
      refine ⟨RT.holds (by rw [hin, hk4]; rfl) hdp (.inr (.inl hk4)) (fun _ => ⟨y, l, e, hy⟩) k1, fun b hb => ?_⟩
      rcases List.mem_cons.1 hb with rfl | hb
      · exact ⟨by omega, by omega, fun h => by omega⟩
      · exact k2 b hb
    · exact ⟨RT.nil _ _, fun b hb => by cases hb⟩
  split
  · exact one _ rfl (by (try unfold codeB); (try dsimp only); decide) (by (try unfold codeB); (try dsimp only); decide) (by (try unfold codeB); (try dsimp only); decide) (fun h => by cases h) (fun h => by cases h)
  · have hlv := paraGo_lv d t
    refine one _ rfl ?_ ?_ ?_ ?_ ?_
    · unfold paraB; simp only; split <;> omega
    · unfold paraB; simp only; split <;> omega
    · unfold paraB; simp only; split <;> omega
    · unfold paraB; simp only
      split
      · intro _; omega
      · intro h; omega
    · intro _
      obtain ⟨b, r, hr, hb1, hb2⟩ := rest_head (by simpa using hb)
      unfold paraB; simp only
      rw [hr]
      exact trimR_ne hb1 hb2 (joinLF_head _ _ _)
theorem all_RT : ∀ (f d : Nat) (op0 : List BlockT) (ls : List Ln), d ≤ 12 → op0.length = d → NoList op0 → RT d op0 (allT f d ls) ∧ ∀ b ∈ allT f d ls, Fine b
  | 0, d, op0, ls, _, _, _ => ⟨RT.nil _ _, fun b hb => by cases hb⟩
  | f + 1, d, op0, ls, hd, hlen, hno => by
    have hn := next_RT (allT f) d op0 hd hlen hno (fun h op ls h1 h2 => all_RT f (d + 1) op ls (by omega) h1 h2) (fun h op ls h1 h2 => all_RT f (d + 2) op ls (by omega) h1 h2)
    have hloop : ∀ (g : Nat) (l : List Ln), RT d op0 (loopT (nextT (allT f) d) g l) ∧ ∀ b ∈ loopT (nextT (allT f) d) g l, Fine b := by
      intro g
      induction g with
      | zero => intro l; exact ⟨RT.nil _ _, fun b hb => by cases hb⟩
      | succ g ih =>
        intro l
        cases l with
        | nil => exact ⟨RT.nil _ _, fun b hb => by cases hb⟩
        | cons s t =>
          unfold loopT
          obtain ⟨a1, a2⟩ := hn s t
          obtain ⟨b1, b2⟩ := ih (nextT (allT f) d s t).2
          exact ⟨RT.app a1 b1, fun b hb => (List.mem_append.1 hb).elim (a2 b) (b2 b)⟩
    exact hloop _ _
theorem right_law (ls : List Ln) : rightB (parseT ls) = true ∧ ∀ b ∈ parseT ls, Fine b := by
  obtain ⟨h1, h2⟩ := all_RT 14 0 [] ls (by (try unfold codeB); (try dsimp only); decide) rfl (fun b hb => by cases hb)
  refine ⟨?_, h2⟩
  obtain ⟨pv, op, _, e⟩ := h1 none [] [] ⟨rfl, rfl, by decide⟩
  rw [List.append_nil] at e
  unfold rightB parseT
  rw [e]
  rfl
end Go.Proofs.YtommebalgghdjaaDoor
