/-
  contents.Depths: its contract: how deep headings lie, as of a stack.
-/
import Derived.Test.YtfdfpimilmhhoaaChecked
import Derived.Test.YtfdfpimilmhhoaaMem
namespace Go.Proofs.Ytfdfpimilmhhoaa
open Go.RowKit

/-- the stack (its top first), after those of the same or a greater level went -/
def popTo (x : Int) (st : List Int) : List Int := st.dropWhile (fun y => decide (x ≤ y))
def dpStack : List Int → List Int → List Int
  | st, [] => st
  | st, x :: r => dpStack (x :: popTo x st) r
def dpDepths : List Int → List Int → List Nat
  | _, [] => []
  | st, x :: r => (popTo x st).length :: dpDepths (x :: popTo x st) r

theorem dpStack_snoc (zs : List Int) (x : Int) : ∀ st, dpStack st (zs ++ [x]) = x :: popTo x (dpStack st zs) := by
  induction zs with
  | nil => intro st; rfl
  | cons z zs ih => intro st; exact ih _
theorem dpDepths_snoc (zs : List Int) (x : Int) : ∀ st, dpDepths st (zs ++ [x]) = dpDepths st zs ++ [(popTo x (dpStack st zs)).length] := by
  induction zs with
  | nil => intro st; rfl
  | cons z zs ih => intro st; exact congrArg (_ :: ·) (ih _)
theorem dpDepths_length (zs : List Int) : ∀ st, (dpDepths st zs).length = zs.length := by
  induction zs with
  | nil => intro st; rfl
  | cons z zs ih => intro st; simp [dpDepths, ih]
theorem popTo_length (x : Int) (st : List Int) : (popTo x st).length ≤ st.length := (List.dropWhile_sublist _).length_le
theorem dpStack_length (zs : List Int) : ∀ st, (dpStack st zs).length ≤ st.length + zs.length := by
  induction zs with
  | nil => intro st; simp [dpStack]
  | cons z zs ih => intro st; have := ih (z :: popTo z st); have := popTo_length z st; simp only [dpStack, List.length_cons] at *; omega

abbrev ints (l : List Int) : List Value := l.map (Value.int .i64)
abbrev nats (l : List Nat) : List Value := l.map (fun n : Nat => Value.int .i64 (n : Int))

theorem Try.info3 : (Try.prog.info? 3).map (fun i => (i.zero, i.size, i.bytes)) = some (some (.int .i64 0), 1, 8) := by kernel_rfl

theorem Try.elInts : Elem Try.prog 22 3 1 8 := Elem.mk' Try.underlying22 Try.info3 rfl (by decide)

theorem popTo_cons_le {x y : Int} {st : List Int} (h : x ≤ y) : popTo x (y :: st) = popTo x st := by simp [popTo, h]
theorem popTo_cons_lt {x y : Int} {st : List Int} (h : ¬ x ≤ y) : popTo x (y :: st) = y :: st := by simp [popTo, h]

theorem dp_next {zs : List Int} {k : Nat} {x : Int} {stk : List Int} (hx : zs[k]? = some x) (hs : dpStack [] (zs.take k) = stk) :
    dpDepths [] (zs.take (k + 1)) = dpDepths [] (zs.take k) ++ [(popTo x stk).length] ∧ dpStack [] (zs.take (k + 1)) = x :: popTo x stk := by
  have : zs.take (k + 1) = zs.take k ++ [x] := by
    rw [List.take_add_one, hx]; rfl
  rw [this, dpDepths_snoc, dpStack_snoc, hs]
  exact ⟨rfl, rfl⟩

set_option maxHeartbeats 400000 in
set_option maxRecDepth 100000 in
theorem depths_any (A : Option Addr) (n c : Nat) (zs : List Int) (w : World) (hr : Reads w w.heap.size 1 A n (ints zs)) (hreach : n * 8 ≤ 140737488351232) :
    Calls Try.prog 9 #[.slice A n c] w fun e w' => ∃ A' c', e = .returned (.slice A' n c') ∧ Own w' w.heap.size 3 1 A' n c' (nats (dpDepths [] zs)) ∧ Below w.heap.size w w' := by
  have hlen : zs.length = n := by have := hr.1; simpa using this
  have HL := Lib.hid hlen
  clear hlen
  go_enter Try.func9, Try.ntmps9
  go_wp2
  go_loopw [3, 4, 9] (fun out st i wr => ∃ (k : Nat) (A1 A2 : Option Addr) (c1 c2 : Nat), k ≤ n ∧ i = .int .i64 k ∧ out = .slice A1 k c1 ∧ st = .slice A2 (dpStack [] (zs.take k)).length c2 ∧
      Own wr w.heap.size 3 1 A1 k c1 (nats (dpDepths [] (zs.take k))) ∧
      Own wr w.heap.size 3 1 A2 (dpStack [] (zs.take k)).length c2 (ints (dpStack [] (zs.take k)).reverse) ∧ Sep A1 A2 ∧ Below w.heap.size w wr)
    (fun _ _ i _ => n - (intOf i).toNat)
  case atStart => exact ⟨0, none, none, 0, 0, Nat.zero_le _, rfl, rfl, rfl, Own.nil _ _ _ _, Own.nil _ _ _ _, Sep.none_l, Below.refl _ _⟩
  case round =>
    obtain ⟨k, A1, A2, c1, c2, hk, rfl, rfl, rfl, hown, hst, hne, hb⟩ := hrel
    by_cases hlt : k < n
    · obtain ⟨ad, u, rfl, _, hx, hc⟩ := (hr.below hb).at_ hlt
      obtain ⟨x, hx', rfl⟩ : ∃ x, zs[k]? = some x ∧ Value.int .i64 x = u := by simpa using hx
      have hsl : (dpStack [] (zs.take k)).length ≤ k := by have := dpStack_length (zs.take k) []; simp at this; omega
      generalize hstk : dpStack [] (zs.take k) = stk at *
      have HN := Lib.hid (dp_next hx' hstk)
      clear hstk hx' hx
      go_wp2_with fail
      go_loop [4] (fun s => ∃ st' : List Int, s = .slice A2 st'.length c2 ∧ st'.length ≤ stk.length ∧ Own wr w.heap.size 3 1 A2 st'.length c2 (ints st'.reverse) ∧ popTo x st' = popTo x stk)
        (fun s => match s with | .slice _ n _ => n | _ => 0)
      case atStart => exact ⟨stk, rfl, Nat.le_refl _, hst, rfl⟩
      case round =>
        obtain ⟨st', rfl, hle, hst', hpop⟩ := hrel
        by_cases hex : popTo x st' = st'
        · have hst'' : st' = popTo x stk := by rw [← hpop, hex]
          have hsl' : st'.length ≤ k := by omega
          have HE := Lib.hid hst''
          clear hpop hst''
          have hbs := hb.size
          rcases st' with _ | ⟨y, st'⟩
          case' cons =>
            obtain ⟨g, hv, _, _⟩ := hst'.some_ (by simp)
            subst hv
            have hy : wr.cell? ⟨g, st'.length, none⟩ = some (.int .i64 y) := hst'.cell (by simp)
            have hxy : ¬ x ≤ y := fun h => by rw [popTo_cons_le h] at hex; have := popTo_length x st'; rw [hex] at this; simp at this; omega
            simp only [List.length_cons] at hle hsl' ⊢
          all_goals
            clear hex
            go_wp2_with (first
              | (at_builtin; refine wpList_app1 Try.elInts rfl (.tmp 31) (.tmp 34) rfl rfl (hown.alloc _) rfl (Blk.new _ _ _) rfl (by simp [Value.oneCell']) (by simp only [maxLen]; omega) (by omega) (by simp; omega) ?_
                 intro A1' c1' w1 hown1 ho1 hm1
                 have ho1' := ho1.of_alloc
                 have hst1 := (hst'.alloc _).only ho1 hne.symm
                 have hne1 := hne.moved hm1 (fun b hb => (hst'.lt hb).2) (by simp)
                 have hb1 : Below w.heap.size w w1 := hb.trans (ho1'.below (fun a ha => (hown.lt ha).1) hbs)
                 have hbs1 := hb1.size)
              | (at_builtin; refine wpList_app1 Try.elInts rfl (.tmp 36) (.tmp 38) rfl rfl (hst1.alloc _) rfl (Blk.new _ _ _) rfl (by simp [Value.oneCell']) (by simp only [maxLen]; omega) (by omega) (by simp; omega) ?_
                 intro A2' c2' w2 hst2 ho2 hm2
                 have ho2' := ho2.of_alloc
                 have hown2 := (hown1.alloc _).only ho2 hne1
                 have hne2 := hne1.symm.moved hm2 (fun b hb => (hown1.lt hb).2) (by simp)
                 have hb2 : Below w.heap.size w w2 := hb1.trans (ho2'.below (fun a ha => (hst1.lt ha).1) hbs1)))
            go_roundw
            case rel =>
              refine ⟨k + 1, A1', A2', c1', c2', by omega, by go_num, rfl, ?_, ?_, ?_, hne2.symm, hb2⟩
              · rw [HN.out.2, ← HE.out]; rfl
              · rw [HN.out.1, ← HE.out]; simpa using hown2
              · rw [HN.out.2, ← HE.out]; simpa using hst2
            case measure => simp [intOf]; omega
        · rcases st' with _ | ⟨y, st'⟩
          · exact absurd rfl hex
          · obtain ⟨g, hv, _, _⟩ := hst'.some_ (by simp)
            subst hv
            have hy : wr.cell? ⟨g, st'.length, none⟩ = some (.int .i64 y) := hst'.cell (by simp)
            simp only [List.length_cons] at hle ⊢
            have hxy : x ≤ y := by
              by_cases h : x ≤ y
              · exact h
              · exact absurd (popTo_cons_lt h) hex
            have HP := Lib.hid hpop
            clear hpop hex
            have hcap : st'.length + 1 ≤ c2 := by simpa using hst'.cap
            go_wp2_with fail
            go_round
            case rel =>
              refine ⟨st', rfl, by omega, ?_, by rw [← HP.out, popTo_cons_le hxy]⟩
              have := hst'.take (m := st'.length) (by simp)
              simpa using this
            case measure => simp
    · go_wp2_with fail
      go_ret
      have : k = n := by omega
      subst this
      have hz : zs.take k = zs := by rw [List.take_of_length_le (by rw [HL.out]; omega)]
      rw [hz] at hown
      exact ⟨A1, c1, rfl, hown, hb⟩
end Go.Proofs.Ytfdfpimilmhhoaa
