/-
  emph.Merge: its contract: one Words instead of many side by side.
-/
import Derived.Test.YtfdfpimilmhhoaaDeeper
namespace Go.Proofs.Ytfdfpimilmhhoaa
open Go.RowKit

/-- a Words without url and title -/
def cleanI (x : Inl) : Inl := if x.kind = 1 then { x with url := ⟨#[]⟩, title := ⟨#[]⟩ } else x
/-- one more node -/
def mergeStep (out : List Inl) (x : Inl) : List Inl :=
  if x.kind = 1 ∧ x.text.size = 0 then out
  else match out.getLast? with
    | some t => if x.kind = 1 ∧ t.kind = 1 ∧ t.depth = x.depth then out.dropLast ++ [{ t with text := t.text ++ x.text }] else out ++ [cleanI x]
    | none => out ++ [cleanI x]
def mergeT (l : List Inl) : List Inl := l.foldl mergeStep []
/-- the bytes of all texts -/
def txtLen (l : List Inl) : Nat := (l.map (·.text.size)).sum

theorem txtLen_append (a b : List Inl) : txtLen (a ++ b) = txtLen a + txtLen b := by simp [txtLen]
theorem cleanI_text (x : Inl) : (cleanI x).text = x.text := by unfold cleanI; split <;> rfl
theorem mergeStep_txt (out : List Inl) (x : Inl) : txtLen (mergeStep out x) ≤ txtLen out + x.text.size := by
  unfold mergeStep
  split
  · omega
  · rcases h : out.getLast? with _ | t
    · simp only; rw [txtLen_append]; simp [txtLen, cleanI_text]
    · simp only
      obtain ⟨ys, rfl⟩ := List.getLast?_eq_some_iff.1 h
      split
      · rw [List.dropLast_concat, txtLen_append, txtLen_append]; simp [txtLen, ByteArray.size_append]; omega
      · rw [txtLen_append, txtLen_append]; simp [txtLen, cleanI_text]
theorem mergeStep_len (out : List Inl) (x : Inl) : (mergeStep out x).length ≤ out.length + 1 := by
  unfold mergeStep
  split
  · omega
  · rcases h : out.getLast? with _ | t
    · simp
    · simp only
      obtain ⟨ys, rfl⟩ := List.getLast?_eq_some_iff.1 h
      split <;> simp
theorem merge_snoc (l : List Inl) (x : Inl) : mergeT (l ++ [x]) = mergeStep (mergeT l) x := by simp [mergeT, List.foldl_append]
theorem mergeT_txt (l : List Inl) : txtLen (mergeT l) ≤ txtLen l := by
  suffices h : ∀ (r : List Inl), txtLen (mergeT r.reverse) ≤ txtLen r.reverse by have := h l.reverse; simpa using this
  intro r
  induction r with
  | nil => simp [mergeT, txtLen]
  | cons x r ih => rw [List.reverse_cons, merge_snoc, txtLen_append]; have := mergeStep_txt (mergeT r.reverse) x; simp [txtLen] at *; omega
theorem mergeT_len (l : List Inl) : (mergeT l).length ≤ l.length := by
  suffices h : ∀ (r : List Inl), (mergeT r.reverse).length ≤ r.reverse.length by have := h l.reverse; simpa using this
  intro r
  induction r with
  | nil => simp [mergeT]
  | cons x r ih => rw [List.reverse_cons, merge_snoc]; have := mergeStep_len (mergeT r.reverse) x; simp at *; omega
theorem txtLen_take (l : List Inl) (k : Nat) : txtLen (l.take k) ≤ txtLen l := by
  have := txtLen_append (l.take k) (l.drop k)
  rw [List.take_append_drop] at this
  omega

theorem last_of {α : Type} {l : List α} (h : 0 < l.length) : ∃ t, l[l.length - 1]? = some t ∧ l.getLast? = some t := by
  refine ⟨_, List.getElem?_eq_getElem (by omega), ?_⟩
  rw [List.getLast?_eq_getElem?, List.getElem?_eq_getElem (by omega)]
theorem merge_app1 {kl : List Inl} {x : Inl} (h : kl.length = 0) (he : ¬ x.text.size = 0) : mergeStep kl x = kl ++ [cleanI x] := by
  have : kl = [] := List.eq_nil_of_length_eq_zero h
  subst this
  unfold mergeStep
  rw [if_neg (fun h => he h.2)]
  rfl
theorem merge_app2 {kl : List Inl} {x t : Inl} (h : kl.getLast? = some t) (he : ¬ x.text.size = 0) (hne : ¬ (t.kind = 1 ∧ t.depth = x.depth)) : mergeStep kl x = kl ++ [cleanI x] := by
  unfold mergeStep
  rw [if_neg (fun h => he h.2), h]
  simp only
  rw [if_neg (fun h => hne h.2)]
theorem merge_set {kl : List Inl} {x t : Inl} (h : kl.getLast? = some t) (hx : x.kind = 1) (he : ¬ x.text.size = 0) (hk : t.kind = 1) (hd : t.depth = x.depth) :
    mergeStep kl x = kl.set (kl.length - 1) { t with text := t.text ++ x.text } := by
  unfold mergeStep
  rw [if_neg (fun h => he h.2), h]
  simp only
  rw [if_pos ⟨hx, hk, hd⟩]
  obtain ⟨ys, rfl⟩ := List.getLast?_eq_some_iff.1 h
  simp
theorem txt_mem {l : List Inl} {t : Inl} (h : t ∈ l) : t.text.size ≤ txtLen l := by
  induction l with
  | nil => cases h
  | cons y l ih =>
    simp only [txtLen, List.map_cons, List.sum_cons] at *
    rcases List.mem_cons.1 h with rfl | h
    · omega
    · have := ih h; omega

set_option maxHeartbeats 4000000 in
set_option maxRecDepth 100000 in
theorem merge_any (A : Option Addr) (n c : Nat) (l : List Inl) (w : World) (hr : Reads w w.heap.size 5 A n (inlCells l)) (hn : n ≤ 1073741824) (ht : txtLen l ≤ 1152921504606846976) :
    Calls Try.prog 24 #[.slice A n c] w fun e w' => ∃ A' c', e = .returned (.slice A' (mergeT l).length c') ∧ Own w' w.heap.size 95 5 A' (mergeT l).length c' (inlCells (mergeT l)) ∧ Below w.heap.size w w' := by
  have hlen : l.length = n := by have := hr.1; rw [flat_length _ 5 inl_len] at this; omega
  have HL := Lib.hid hlen
  clear hlen
  go_enter Try.func24, Try.ntmps24
  go_wp2
  go_loopw [3, 9] (fun out i wr => ∃ (k : Nat) (A1 : Option Addr) (c1 : Nat), k ≤ n ∧ i = .int .i64 k ∧ out = .slice A1 (mergeT (l.take k)).length c1 ∧
      Own wr w.heap.size 95 5 A1 (mergeT (l.take k)).length c1 (inlCells (mergeT (l.take k))) ∧ Below w.heap.size w wr)
    (fun _ i _ => n - (intOf i).toNat)
  case atStart => exact ⟨0, none, 0, Nat.zero_le _, rfl, rfl, Own.nil _ _ _ _, Below.refl _ _⟩
  case round =>
    obtain ⟨k, A1, c1, hk, rfl, rfl, hown, hb⟩ := hrel
    by_cases hlt : k < n
    · obtain ⟨x, hx⟩ : ∃ x, l[k]? = some x := ⟨_, List.getElem?_eq_getElem (by rw [HL.out]; omega)⟩
      obtain ⟨ad, rfl, _, _, g0, g1, g2, g3, g4⟩ := (hr.below hb).inl hx
      have hbs := hb.size
      have hml : (mergeT (l.take k)).length ≤ k := Nat.le_trans (mergeT_len _) (List.length_take_le _ _)
      have hmt : txtLen (mergeT (l.take k)) ≤ 1152921504606846976 := Nat.le_trans (mergeT_txt _) (Nat.le_trans (txtLen_take _ _) ht)
      have hxt : x.text.size ≤ 1152921504606846976 := by
        have h1 := txtLen_append (l.take k) (l.drop k)
        rw [List.take_append_drop] at h1
        have h2 : l.drop k = x :: l.drop (k + 1) := by rw [List.drop_eq_getElem_cons (List.getElem?_eq_some_iff.1 hx).1, (List.getElem?_eq_some_iff.1 hx).2]
        rw [h2] at h1; simp [txtLen] at h1 ht; omega
      have HK : Hid (mergeT (l.take (k + 1)) = mergeStep (mergeT (l.take k)) x) := Lib.hid (by
        rw [List.take_add_one, hx, Option.toList_some, merge_snoc])
      clear hx
      generalize mergeT (l.take k) = kl at *
      by_cases hw : x.kind = 1
      · have q0 : (x.kind == 1) = true := beq_iff_eq.2 hw
        by_cases he : x.text.size = 0
        · have HS : Hid (mergeStep kl x = kl) := Lib.hid (by unfold mergeStep; rw [if_pos ⟨hw, he⟩])
          clear hw
          go_wp2_with fail
          refine (nothing_any _ _).mono ?_
          rintro e w1 ⟨rfl, b1⟩
          have hd : decide (x.text.size = 0) = true := decide_eq_true he
          rw [hd]
          have hown1 := (hown.alloc _).below b1 (Nat.le_refl _)
          have hb1 := (hb.alloc hbs _).trans (b1.mono (by simp; omega))
          clear b1 hd
          go_wp2_with fail
          go_roundw
          case rel => exact ⟨k + 1, A1, c1, by omega, by go_num, by rw [HK.out, HS.out], by rw [HK.out, HS.out]; exact hown1, hb1⟩
          case measure => simp [intOf]; omega
        · have X0 := Blk.new wr 95 #[.int .i64 x.kind, .int .i64 x.depth, .string x.text, .string ⟨#[]⟩, .string ⟨#[]⟩]
          have HC : Hid (cleanI x = { x with url := ⟨#[]⟩, title := ⟨#[]⟩ }) := Lib.hid (by unfold cleanI; rw [if_pos hw])
          have hfacts : (kl.length = 0 ∧ Hid (mergeStep kl x = kl ++ [cleanI x])) ∨ ∃ t, 0 < kl.length ∧ kl[kl.length - 1]? = some t ∧
              ((¬ t.kind = 1 ∧ Hid (mergeStep kl x = kl ++ [cleanI x])) ∨ ((t.kind == 1) = true ∧ (t.depth == x.depth) = false ∧ Hid (mergeStep kl x = kl ++ [cleanI x])) ∨
               ((t.kind == 1) = true ∧ (t.depth == x.depth) = true ∧ Hid (mergeStep kl x = kl.set (kl.length - 1) { t with text := t.text ++ x.text }))) := by
            rcases Nat.eq_zero_or_pos kl.length with h0 | h0
            · exact .inl ⟨h0, Lib.hid (merge_app1 h0 he)⟩
            · obtain ⟨t, h1, h2⟩ := last_of h0
              refine .inr ⟨t, h0, h1, ?_⟩
              by_cases hk1 : t.kind = 1
              · by_cases hd1 : t.depth = x.depth
                · exact .inr (.inr ⟨beq_iff_eq.2 hk1, beq_iff_eq.2 hd1, Lib.hid (merge_set h2 hw he hk1 hd1)⟩)
                · exact .inr (.inl ⟨beq_iff_eq.2 hk1, beq_eq_false_iff_ne.2 hd1, Lib.hid (merge_app2 h2 he (fun h => hd1 h.2))⟩)
              · exact .inl ⟨hk1, Lib.hid (merge_app2 h2 he (fun h => hk1 h.1))⟩
          clear hw
          go_wp2_with fail
          refine (nothing_any _ _).mono ?_
          rintro e w1 ⟨rfl, b1⟩
          have hd : decide (x.text.size = 0) = false := decide_eq_false he
          rw [hd]
          have hown1 := (hown.alloc _).below b1 (Nat.le_refl _)
          have hb1 := (hb.alloc hbs _).trans (b1.mono (by simp; omega))
          have hbs1 := hb1.size
          have X1 := X0.below b1 (by simp)
          have x0 := X1.cell 0
          have x1 := X1.cell 1
          have x2 := X1.cell 2
          have x3 := X1.cell 3
          have x4 := X1.cell 4
          simp only [List.getElem?_toArray, List.getElem?_cons_zero, List.getElem?_cons_succ] at x0 x1 x2 x3 x4
          have hgs : ∀ a, A1 = some a → a.block ≠ wr.heap.size := fun a ha => by have := (hown.lt ha).2; omega
          clear b1 hd X0 hown hb hbs g0 g1 g2 g3 g4
          rcases hfacts with ⟨h0, HS⟩ | ⟨t, h0, hlast, hrest⟩
          · obtain rfl := List.eq_nil_of_length_eq_zero h0
            clear h0
            go_wp2_with fail
            go_quiet (fail)
            have hown2 := hown1.drewN nq
            have hb2 := below_drewN' hb1 nq
            go_wp2_with (at_builtin; refine wpList_app1 Try.elInls rfl (.tmp 21) (.tmp 23) rfl rfl (by exact (hown2.alloc _)) rfl (Blk.new' _ _ _ _ (by simp)) rfl (by simp [Value.oneCell']) (by simp only [maxLen]; omega) (by omega) (by simp; omega) ?_
                         intro A1' c1' w3 hown3 ho3 hm3)
            go_roundw
            case rel =>
              refine ⟨k + 1, A1', c1', by omega, by go_num, ?_, ?_, hb2.trans (ho3.of_alloc.below (fun a ha => (hown1.lt ha).1) hbs1)⟩
              · rw [HK.out, HS.out, HC.out]; rfl
              · rw [HK.out, HS.out, HC.out]; simpa [inlCells, Inl.cells] using hown3
            case measure => simp [intOf]; omega
          · obtain ⟨g, rfl, hgb, _⟩ := hown1.some_ h0
            obtain ⟨p, hp⟩ : ∃ p, p = kl.length - 1 := ⟨_, rfl⟩
            have hpi : (kl.length : Int) - 1 = (p : Int) := by omega
            have hpl : p < kl.length := by omega
            rw [← hp] at hlast hrest
            rw [hpi]
            clear hp hpi
            have tt := fun j (hj : j < 5) => flat_get Inl.cells 5 inl_len kl p j hj hlast
            have t0 := hown1.cell (j := p * 5) (u := .int .i64 t.kind) (by have := tt 0 (by omega); rw [Nat.add_zero] at this; rw [this]; rfl)
            have t1 := hown1.cell (j := p * 5 + 1) (u := .int .i64 t.depth) (by rw [tt 1 (by omega)]; rfl)
            have t2 := hown1.cell (j := p * 5 + 2) (u := .string t.text) (by rw [tt 2 (by omega)]; rfl)
            have htm := Nat.le_trans (txt_mem (List.mem_of_getElem? hlast)) hmt
            have r1 : decide (0 ≤ (p : Int)) = true := decide_eq_true (by omega)
            have HLA := Lib.hid hlast
            clear tt hlast
            rcases hrest with ⟨hk1, HS⟩ | ⟨hk1, hd1, HS⟩ | ⟨hk1, hd1, HS⟩
            case' inl => have hk1 : (t.kind == 1) = false := beq_eq_false_iff_ne.2 hk1
            case inr.inr =>
              go_wp2_with fail
              go_quiet (fail)
              have hown2 := hown1.drewN nq
              have hb2 := below_drewN' hb1 nq
              have hfz : (w1.drewN nq).frozen? ⟨g, p * 5 + 2, none⟩ = false := hown1.frozen (p * 5 + 2)
              have t2 : (w1.drewN nq).cell? ⟨g, p * 5 + 2, none⟩ = some (.string t.text) := t2
              have x2 : (w1.drewN nq).cell? ⟨wr.heap.size, 2, none⟩ = some (.string x.text) := x2
              clear t0 t1 r1 hown1 hb1 x0 x1 x3 x4 X1 hbs1
              generalize w1.drewN nq = w2 at *
              go_wp2_with fail
              have hsum : ¬ 9223372036854775807 < t.text.size + x.text.size := by omega
              go_still_tail 10, (by kernel_rfl)
              clear hsum
              have hown3 := hown2.drew
              have hb3 := hb2.drew
              change wpList _ _ _ _ _ w2.drew
              have t2' : w2.drew.cell? ⟨g, p * 5 + 2, none⟩ = some (.string t.text) := t2
              have hfz' : w2.drew.frozen? ⟨g, p * 5 + 2, none⟩ = false := hfz
              clear hown2 hb2 hfz t2 x2
              generalize w2.drew = w3 at *
              have hown4 := hown3.stored (p * 5 + 2) (.string (t.text ++ x.text))
              have hb4 := hb3.setCell (p := ⟨g, p * 5 + 2, none⟩) hgb (.string (t.text ++ x.text))
              rw [flat_set Inl.cells 5 inl_len kl p 2 (by omega) HLA.out (x' := { t with text := t.text ++ x.text }) rfl] at hown4
              clear hb3 hown3
              go_wp2_with fail
              go_roundw
              case rel =>
                have hl1 : (kl.set p { t with text := t.text ++ x.text }).length = kl.length := by simp
                refine ⟨k + 1, some ⟨g, 0, none⟩, c1, by omega, by go_num, ?_, ?_, hb4⟩
                · rw [HK.out, HS.out, hl1]
                · rw [HK.out, HS.out, hl1]; exact hown4
              case measure => simp [intOf]; omega
            all_goals
              go_wp2_with fail
              go_quiet (fail)
              have hown2 := hown1.drewN nq
              have hb2 := below_drewN' hb1 nq
              clear t0 t1 t2 r1
              go_wp2_with (at_builtin; refine wpList_app1 Try.elInls rfl (.tmp 21) (.tmp 23) rfl rfl (by exact (hown2.alloc _)) rfl (Blk.new' _ _ _ _ (by simp)) rfl (by simp [Value.oneCell']) (by simp only [maxLen]; omega) (by omega) (by simp; omega) ?_
                           intro A1' c1' w3 hown3 ho3 hm3)
              go_roundw
              case rel =>
                have hl1 : (kl ++ [cleanI x]).length = kl.length + 1 := by simp
                refine ⟨k + 1, A1', c1', by omega, by go_num, ?_, ?_, hb2.trans (ho3.of_alloc.below (fun a ha => (hown1.lt ha).1) hbs1)⟩
                · rw [HK.out, HS.out, hl1]
                · rw [HK.out, HS.out, hl1, HC.out]; simpa [inlCells, Inl.cells] using hown3
              case measure => simp [intOf]; omega
      · have q0 : (x.kind == 1) = false := beq_eq_false_iff_ne.2 hw
        have HS : Hid (mergeStep kl x = kl ++ [cleanI x]) := Lib.hid (by unfold mergeStep; rw [if_neg (fun h => hw h.1)]; split <;> simp [hw])
        have HC : Hid (cleanI x = x) := Lib.hid (by unfold cleanI; rw [if_neg hw])
        have X0 := Blk.new wr 95 #[.int .i64 x.kind, .int .i64 x.depth, .string x.text, .string x.url, .string x.title]
        clear hw
        go_wp2_with fail
        go_quiet (fail)
        go_wp2_with (at_builtin; refine wpList_app1 Try.elInls rfl (.tmp 21) (.tmp 23) rfl rfl (by exact (hown.alloc _).alloc _) rfl (Blk.new' _ _ _ _ (by simp)) rfl (by simp [Value.oneCell']) (by simp only [maxLen]; omega) (by omega) (by simp; omega) ?_
                     intro A1' c1' w2 hown2 ho2 hm2)
        have hb2 := below_drewN' (hb.alloc hbs (.cells #[.int .i64 x.kind, .int .i64 x.depth, .string x.text, .string x.url, .string x.title] 95)) nq
        go_roundw
        case rel =>
          have hl1 : (kl ++ [x]).length = kl.length + 1 := by simp
          refine ⟨k + 1, A1', c1', by omega, by go_num, ?_, ?_, hb2.trans (ho2.of_alloc.below (fun a ha => (hown.lt ha).1) hb2.size)⟩
          · rw [HK.out, HS.out, HC.out, hl1]
          · rw [HK.out, HS.out, HC.out, hl1]; simpa [inlCells, Inl.cells] using hown2
        case measure => simp [intOf]; omega
    · go_wp2_with fail
      go_ret
      have : k = n := by omega
      subst this
      rw [List.take_of_length_le (by rw [HL.out]; omega)] at hown ⊢
      exact ⟨A1, c1, rfl, hown, hb⟩
end Go.Proofs.Ytfdfpimilmhhoaa
