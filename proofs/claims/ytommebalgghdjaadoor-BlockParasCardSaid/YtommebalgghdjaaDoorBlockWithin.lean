/-
  block: what 'all' answers, as a condition of those that call it; within.
-/
import Derived.Test.YtommebalgghdjaaDoorBlockIndented
namespace Go.Proofs.YtommebalgghdjaaDoor
open Go.RowKit
set_option linter.unusedVariables false

/-- 'append(s, x...)' inside a region that draws -/
theorem step_app {P : Program} {w : World} {ops : Array Oper} {E' : Prop} {o : Oper} {a : Act} {K : Act → World → Prop} {Q : Exit → Act → World → Prop} {t e size bytes : Nat} (E : Elem P t e size bytes) (hgd : o.guard = none) (s x : Operand)
    (ho : o.op = .call { callee := .builtin .append, args := #[s, x], argTypes := #[t, t] })
    {base : Nat} {A : Option Addr} {n c : Nat} {xs : List Value} (hs : a.eval s = .slice A n c) (hown : Own w base e size A n c xs)
    {L0 : Nat} {B : Option Addr} {m d : Nat} {news : List Value} (hx : a.eval x = .slice B m d) (hr : Reads w L0 size B m news) (h1 : ∀ u ∈ news, u.oneCell' = true)
    (h63 : n + m ≤ maxLen) (hbytes : (n + m) * bytes ≤ 140737488355328) (hbase : base ≤ w.heap.size)
    (h : ∀ A' c' w', Own w' base e size A' (n + m) c' (xs ++ news) → Only w w' A → Moved w A A' → K (a.put o.dst (.slice A' (n + m) c')) w') :
    if Region.wanted o (yielded ops a.tmps) = true then Oper.wp P o a w K Q else E' := by
  have hw : Region.wanted o (yielded ops a.tmps) = true := by simp [Region.wanted, hgd]
  rw [if_pos hw]
  obtain ⟨i, z, hi, hz, hsize, hby, hzs⟩ := E.info
  refine wp_append_any w s x t ho base e i z size bytes E.und hi hz hsize hby hzs E.pos _ n xs hs hown L0 B m d news hx hr h1 h63 hbytes hbase (fun v' w' h2 h3 h4 => ?_)
  obtain ⟨A', c', rfl⟩ := slice_of_own h2
  rw [ownBlock_slice] at h3 h4
  rw [ownBlock_slice] at h4
  exact h A' c' w' h2 h3 h4
theorem blk_one (l : List BlockT) : ∀ u ∈ blkCells l, u.oneCell' = true := by
  intro u hu
  obtain ⟨b, _, hb⟩ := List.mem_flatMap.1 hu
  simp only [BlockT.cells, List.mem_cons, List.not_mem_nil, or_false] at hb
  rcases hb with rfl | rfl | rfl | rfl | rfl | rfl <;> rfl

theorem Own.belowLt {w w' : World} {base e size n c K : Nat} {A : Option Addr} {xs : List Value} (h : Own w base e size A n c xs) (hb : Below K w w') (hA : ∀ a, A = some a → a.block < K) : Own w' base e size A n c xs := by
  refine ⟨h.1, ?_⟩
  rcases h.2 with hn | ⟨g, cap, cur, hv, hb', hh, r⟩
  · exact .inl hn
  · refine .inr ⟨g, cap, cur, hv, hb', ?_, r⟩
    injection hv with hv
    have := hA _ hv
    rw [hb.block g this]
    exact hh
/-- what 'all' answers, so many containers deep -/
def AllOk (f depth : Nat) : Prop := ∀ (K : Nat) (xs : List ByteArray) (base g : Nat) (A : Option Addr) (n c at_ : Nat) (out : List BlockT) (w : World), PSt w base g A n c at_ depth out → out.length + 64 * n ≤ 1099511600000 →
  Reads w K 1 A n (txCells xs) → K ≤ base → LnOk xs → n ≤ 1048576 → n ≤ c →
  Calls Tryd.prog 23 #[.pointer (some ⟨g, 0, none⟩)] w fun e w' => ∃ (Ao : Option Addr) (m co : Nat), e = .returned (.slice Ao m co) ∧ (out ++ allT f depth ((xs.map L).drop at_)).length = m ∧
    Own w' base 28 6 Ao m co (blkCells (out ++ allT f depth ((xs.map L).drop at_))) ∧ Below base w w'

set_option maxHeartbeats 4000000 in
set_option maxRecDepth 100000 in
theorem within_any (f dp : Nat) (hf : f ≤ 31) (IH : AllOk f dp) (K : Nat) (ls : List ByteArray) (B : Option Addr) (m d : Nat) (base g : Nat) (A : Option Addr) (n c at_ depth : Nat) (out : List BlockT) (w : World) (h : PSt w base g A n c at_ depth out)
    (hN : out.length + 64 * m ≤ 1099511627776) (hr : Reads w K 1 B m (txCells ls)) (hK : K ≤ w.heap.size) (hok : LnOk ls) (hm : m ≤ 1048576) (hmd : m ≤ d) :
    Calls Tryd.prog 73 #[.pointer (some ⟨g, 0, none⟩), .int .i64 (dp : Int), .slice B m d] w
      fun e w' => e = .returned (.tuple #[]) ∧ PSt w' base g A n c at_ depth (out ++ allT f dp (ls.map L)) ∧ Below base w w' := by
  have hlen : ls.length = m := by have := hr.1; simpa using this
  obtain ⟨h1, h2, Ao, co, hB, hO⟩ := h
  have hgl := hB.lt
  have hQ : PSt (w.alloc (.cells #[.slice B m d, .int .i64 0, .int .i64 (dp : Int), .slice none 0 0] 44)) w.heap.size w.heap.size B m d 0 dp [] :=
    ⟨Nat.le_refl _, by simp, none, 0, Blk.new _ _ _, Own.nil _ _ _ _⟩
  have hall := IH K ls w.heap.size w.heap.size B m d 0 [] (World.drew _) (hQ.drewN 1) (by simp; omega) (hr.alloc hK _).drew hK hok hm hmd
  simp only [List.nil_append, List.drop_zero] at hall
  have hle := allT_len f dp (ls.map L)
  rw [List.length_map, hlen] at hle
  have hle2 : (allT f dp (ls.map L)).length ≤ 62 * m := Nat.le_trans hle (Nat.mul_le_mul_right _ (by omega))
  have HALL := Lib.hid hall
  clear hall hQ hle hlen
  generalize allT f dp (ls.map L) = nb at *
  have hnb2 := hle2
  go_enter Tryd.func73, Tryd.ntmps73
  go_upto_region 1 with fail
  have hBW := hB.alloc (.cells #[.slice B m d, .int .i64 0, .int .i64 (dp : Int), .slice none 0 0] 44)
  have hOW := hO.alloc (.cells #[.slice B m d, .int .i64 0, .int .i64 (dp : Int), .slice none 0 0] 44)
  have hbW : Below w.heap.size w (w.alloc (.cells #[.slice B m d, .int .i64 0, .int .i64 (dp : Int), .slice none 0 0] 44)) := (Below.refl _ _).alloc (Nat.le_refl _) _
  have hsz : w.heap.size < (w.alloc (.cells #[.slice B m d, .int .i64 0, .int .i64 (dp : Int), .slice none 0 0] 44)).heap.size := by simp
  obtain ⟨s0, hs0⟩ : ∃ s0, w.heap.size = s0 := ⟨_, rfl⟩
  rw [hs0] at HALL hbW hsz hgl h2
  simp only [hs0]
  have hOs : ∀ a, Ao = some a → a.block < s0 := fun a ha => by have := (hO.lt ha).2; omega
  clear hr hK hs0 hB hO
  generalize w.alloc (.cells #[.slice B m d, .int .i64 0, .int .i64 (dp : Int), .slice none 0 0] 44) = W at *
  obtain ⟨ol, hol⟩ : ∃ ol, out.length = ol := ⟨_, rfl⟩
  rw [hol] at hBW hOW hN
  have HOL := Lib.hid hol
  have HNE := Lib.hid (hOW.blk_ne hBW (by decide))
  clear hol
  have p3 : W.cell? ⟨g, 0 + 3, none⟩ = some (.slice Ao ol co) := hBW.cell 3
  have hgW := hBW.lt
  go_region_law (first
    | (refine step_app Tryd.elBlocks rfl (.tmp 14) (.tmp 15) rfl rfl hO1 rfl hown.reads (blk_one _) (by simp only [maxLen]; omega) (by omega) hz1 ?_
       intro A' c' w3 hO3 ho hmv
       have hB3 := hB1.only ho HNE.out
       have z0 := hB3.frozen 3
       have z1 : w3.cell? ⟨g, 3, none⟩ = some (.slice Ao ol co) := hB3.cell 3)
    | (go_simp
       go_at_call 23
       refine Calls.mono HALL.out ?_
       rintro e w1 ⟨Aq, mq, cq, rfl, hmq, hown, b0⟩
       have b1 := below_of_drew b0
       have hB1 := hBW.below b1 (by omega)
       have hO1 := hOW.belowLt b1 hOs
       have hz1 : base ≤ w1.heap.size := by have := b1.size; omega
       have zz : w1.cell? ⟨g, 0 + 3, none⟩ = some (.slice Ao ol co) := hB1.cell 3))
  all_goals
    go_wp2_with fail
    go_end0
    have hb3 := (hbW.mono h2).trans ((b1.mono h2).trans (ho.below (fun a ha => (hO1.lt ha).1) hz1))
    have hsz3 := ho.size
    refine ⟨rfl, ⟨h1, by simp [World.setCell]; omega, A', c', ?_, ?_⟩, hb3.setCell (p := ⟨g, 3, none⟩) h1 _⟩
    · rw [List.length_append, HOL.out, hmq]
      exact hB3.set_ 3 _
    · rw [List.length_append, HOL.out, hmq, blkCells_app]
      exact hO3.setBlk hB3 (by decide) _
end Go.Proofs.YtommebalgghdjaaDoor
