/-
  block: the contracts of code, raw, fenced and indented.
-/
import Derived.Test.YtommebalgghdjaaDoorBlockMem
import Derived.Test.YtommebalgghdjaaDoorLine
import Derived.Test.YtommebalgghdjaaDoorLine2
namespace Go.Proofs.YtommebalgghdjaaDoor
open Go.RowKit
set_option linter.unusedVariables false

theorem joinT_bd (l : List (List UInt8)) (m : Nat) (h : ∀ x ∈ l, x.length ≤ m) : (joinT l).length ≤ (m + 1) * l.length := by
  induction l with
  | nil => simp [joinT]
  | cons x t ih =>
    have := ih (fun y hy => h y (List.mem_cons_of_mem _ hy))
    have := h x (by simp)
    have e : (joinT (x :: t)).length = x.length + 1 + (joinT t).length := by simp [joinT]; omega
    rw [e, List.length_cons, Nat.mul_add]; omega
def stripB (cols : Nat) (x : ByteArray) : ByteArray := S (stripT (L x) (cols : Int))
/-- lines that are not too long -/
def LnOk (ls : List ByteArray) : Prop := ∀ x ∈ ls, mu (L x) ≤ 1048576
theorem LnOk.size {ls : List ByteArray} (h : LnOk ls) : ∀ x ∈ ls, x.size ≤ 1048576 := fun x hx => by have := h x hx; have := mu_len (L x); rw [length_L] at this; omega
theorem mapL_strip (cols : Nat) (ls : List ByteArray) : (ls.map (stripB cols)).map L = (ls.map L).map fun s => stripT s (cols : Int) := by
  rw [List.map_map, List.map_map]
  apply List.map_congr_left
  intro x _
  simp [stripB]
theorem LnOk.strip {ls : List ByteArray} (h : LnOk ls) (cols : Nat) : LnOk (ls.map (stripB cols)) := fun x hx => by
  obtain ⟨y, hy, rfl⟩ := List.mem_map.1 hx
  have := h y hy
  have := mu_strip (L y) (cols : Int)
  unfold stripB
  rw [L_S]; omega
theorem join_ok {ls : List ByteArray} (h : LnOk ls) (hn : ls.length ≤ 1048576) : (joinT (ls.map L)).length ≤ 140737488355328 := by
  have h1 := joinT_bd (ls.map L) 1048576 (fun x hx => by
    obtain ⟨y, hy, rfl⟩ := List.mem_map.1 hx
    have := h y hy
    have := mu_len (L y)
    omega)
  rw [List.length_map] at h1
  have h2 : (1048576 + 1) * ls.length ≤ (1048576 + 1) * 1048576 := Nat.mul_le_mul_left _ hn
  omega

set_option maxHeartbeats 2000000 in
set_option maxRecDepth 100000 in
theorem code_any (info : List UInt8) (cols : Nat) (B : Option Addr) (m d K : Nat) (ls : List ByteArray) (base g : Nat) (A : Option Addr) (n c at_ depth : Nat) (out : List BlockT) (w : World) (h : PSt w base g A n c at_ depth out) (hN : out.length ≤ 1099511627776)
    (hr : Reads w K 1 B m (txCells ls)) (hK : K ≤ w.heap.size) (hok : LnOk ls) (hm : m ≤ 1048576) (hc : cols ≤ 1073741824) :
    Calls Tryd.prog 69 #[.pointer (some ⟨g, 0, none⟩), .string (S info), .slice B m d, .int .i64 (cols : Int)] w
      fun e w' => e = .returned (.tuple #[]) ∧ PSt w' base g A n c at_ depth (out ++ [codeB depth info (ls.map L) cols]) ∧ Below base w w' := by
  have hlen : ls.length = m := by have := hr.1; simpa using this
  have hjo := join_ok (hok.strip cols) (by rw [List.length_map]; omega)
  have hput : ∀ w1, Below w.heap.size w w1 → Calls Tryd.prog 46 #[.pointer (some ⟨g, 0, none⟩), .agg #[.int .i64 6, .int .i64 0, .int .i64 0, .bool false, .string (S (joinT ((ls.map (stripB cols)).map L))), .string (S info)]] w1
      fun e w' => e = .returned (.tuple #[]) ∧ PSt w' base g A n c at_ depth (out ++ [codeB depth info (ls.map L) cols]) ∧ Below base w1 w' := fun w1 hb => by
    refine (put_any ⟨6, 0, 0, false, joinT ((ls.map (stripB cols)).map L), info⟩ base g A n c at_ depth out w1 (h.below hb (Nat.le_refl _)) hN).mono ?_
    rintro e w2 ⟨he, h1, h2, _⟩
    refine ⟨he, ?_, h2⟩
    rw [mapL_strip] at h1
    exact h1
  have HPUT := Lib.hid hput
  have HJ := Lib.hid hjo
  have HL := Lib.hid hlen
  have HOK := Lib.hid hok
  have hbase := h.size
  clear hput hjo hlen hok
  obtain ⟨I, hI⟩ : ∃ I, S info = I := ⟨_, rfl⟩
  rw [hI] at HPUT ⊢
  clear hI
  go_enter Tryd.func69, Tryd.ntmps69
  go_wp2_with fail
  go_loopw [8, 13] (fun s8 s13 wr => ∃ (k : Nat) (A1 : Option Addr) (c1 : Nat), k ≤ m ∧ s13 = .int .i64 k ∧ s8 = .slice A1 k c1 ∧ Own wr w.heap.size 9 1 A1 k c1 (txCells ((ls.take k).map (stripB cols))) ∧ Below w.heap.size w wr) (fun _ s13 _ => m - (intOf s13).toNat)
  case atStart => exact ⟨0, none, 0, Nat.zero_le _, rfl, rfl, Own.nil _ _ _ _, Below.refl _ _⟩
  case round =>
    obtain ⟨k, A1, c1, hk, rfl, rfl, hown, hb⟩ := hrel
    have hzw := hb.size
    by_cases hlt : k < m
    · obtain ⟨ad, u, rfl, _, hx0, hcx⟩ := (hr.below (hb.mono hK)).at_ hlt
      obtain ⟨x, hx, rfl⟩ : ∃ x, ls[k]? = some x ∧ Value.string x = u := by simpa using hx0
      have hxs := HOK.out.size x (List.mem_of_getElem? hx)
      have HT : Hid ((ls.take (k + 1)).map (stripB cols) = (ls.take k).map (stripB cols) ++ [stripB cols x]) := Lib.hid (by rw [List.take_add_one, hx]; simp)
      have HSX : Hid (S (stripT (L x) (cols : Int)) = stripB cols x) := Lib.hid rfl
      clear hx hx0
      generalize (ls.take k).map (stripB cols) = tl at *
      generalize stripB cols x = y at *
      go_wp2_with (first
        | (go_at_call 86; refine (strip_any x (cols : Int) _ hxs (by omega)).mono ?_; rintro e w1 ⟨rfl, b1⟩; rw [HSX.out]
           have hown1 := hown.below b1 (Nat.le_refl _)
           have hb1 := hb.trans (b1.mono hzw)
           have hz1 := hb1.size)
        | (at_builtin; refine wpList_app1 Tryd.elTexts rfl (.tmp 17) (.tmp 21) rfl rfl (by exact hown1.alloc _) rfl (Blk.new' _ _ _ _ (by simp)) rfl (by simp [Value.oneCell']) (by simp only [maxLen]; omega) (by omega) (by simp; omega) ?_
           intro A2 c2 w2 hr2 ho2 hm2))
      go_roundw
      case rel =>
        refine ⟨k + 1, A2, c2, by omega, by go_num, rfl, ?_, hb1.trans (ho2.of_alloc.below (fun a ha => (hown1.lt ha).1) hz1)⟩
        rw [HT.out]
        simpa [txCells] using hr2
      case measure => simp [intOf]; omega
    · have hkm : k = m := by omega
      subst hkm
      rw [List.take_of_length_le (by rw [HL.out]; omega)] at hown
      have hj := join_any A1 k c1 wr.heap.size (ls.map (stripB cols)) wr hown.reads (Nat.le_refl _) HJ.out
      have HJN := Lib.hid hj
      clear hj
      generalize S (joinT ((ls.map (stripB cols)).map L)) = T at *
      go_wp2_with (first
        | (go_at_call 77; refine HJN.out.mono ?_; rintro e w1 ⟨rfl, b1⟩; have hb1 := hb.trans (b1.mono hzw))
        | (go_at_call 46; refine (HPUT.out _ hb1).mono ?_; rintro e w2 ⟨rfl, hP2, b2⟩))
      go_end0
      exact ⟨rfl, hP2, (hb1.mono hbase).trans b2⟩
end Go.Proofs.YtommebalgghdjaaDoor
