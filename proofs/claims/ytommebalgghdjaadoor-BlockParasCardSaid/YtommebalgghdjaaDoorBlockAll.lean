/-
  block: the contract of all, by induction over how many containers may lie in one another yet; and of Parse.
-/
import Derived.Test.YtommebalgghdjaaDoorBlockNext
namespace Go.Proofs.YtommebalgghdjaaDoor
open Go.RowKit
set_option linter.unusedVariables false

theorem PSt.outCell {w : World} {base g n c at_ depth : Nat} {A : Option Addr} {out : List BlockT} (h : PSt w base g A n c at_ depth out) :
    ∃ Ao co, w.cell? ⟨g, 0 + 3, none⟩ = some (.slice Ao out.length co) ∧ Own w base 28 6 Ao out.length co (blkCells out) := by
  obtain ⟨_, _, Ao, co, hB, hO⟩ := h
  exact ⟨Ao, co, hB.cell 3, hO⟩

theorem next_len64 (f depth : Nat) (hf : f ≤ 31) (s : Ln) (t : List Ln) :
    (nextT (allT f) depth s t).2.length ≤ t.length ∧ (nextT (allT f) depth s t).1.length + 64 * (nextT (allT f) depth s t).2.length ≤ 64 * (t.length + 1) :=
  nextT_len (allT f) depth 62 (fun d ls => Nat.le_trans (allT_len f d ls) (Nat.mul_le_mul_right _ (by omega))) s t

set_option maxHeartbeats 20000000 in
set_option maxRecDepth 100000 in
theorem all_step (f depth : Nat) (hf : f ≤ 31) (hdp : depth ≤ 1000) (IHq : depth < 12 → AllOk f (depth + 1)) (IHl : depth < 11 → AllOk f (depth + 2)) : AllOk (f + 1) depth := by
  intro K xs base g A n c at_ out w h hN hr hK hok hn hnc
  have hlen : xs.length = n := by have := hr.1; simpa using this
  have HL := Lib.hid hlen
  have HN := Lib.hid hN
  obtain ⟨G, hG⟩ : ∃ G, out ++ allT (f + 1) depth ((xs.map L).drop at_) = G := ⟨_, rfl⟩
  rw [hG]
  have HG := Lib.hid hG
  clear hlen hN hG
  go_enter Tryd.func23, Tryd.ntmps23
  go_wp2_with fail
  go_loopw [13] (fun _ wr => ∃ (k : Nat) (out' : List BlockT), out' ++ allT (f + 1) depth ((xs.map L).drop k) = G ∧ out'.length + 64 * (n - k) ≤ 1099511600000 ∧ PSt wr base g A n c k depth out' ∧ Below base w wr) (fun _ wr => n - intAt wr ⟨g, 1, none⟩)
  case atStart => exact ⟨at_, out, HG.out, by have := HN.out; omega, h, Below.refl _ _⟩
  case round =>
    obtain ⟨k, out', hg, hN', hP, hb⟩ := hrel
    have HGG := Lib.hid hg
    have HM := Lib.hid hP.intAt
    have HNN := Lib.hid hN'
    clear hg hN'
    obtain ⟨e0, e1, e2, ef⟩ := hP.cells
    by_cases hlt : k < n
    · have q1 : decide ((k : Int) < (n : Int)) = true := decide_eq_true (by omega)
      obtain ⟨x, hx⟩ : ∃ x, xs[k]? = some x := ⟨_, List.getElem?_eq_getElem (by rw [HL.out]; exact hlt)⟩
      have hnx := fun W hW (hbW : Below base w W) => next_any f depth hf IHq IHl hdp K xs base g A n c k out' W hW HNN.out (hr.below (hbW.mono hK)) hK hok hn hlt hnc x hx
      have hdk : (xs.map L).drop k = L x :: (xs.map L).drop (k + 1) := by
        have hkl : k < (xs.map L).length := by rw [List.length_map, HL.out]; exact hlt
        rw [List.drop_eq_getElem_cons hkl]
        congr 1
        rw [List.getElem_map]
        congr 1
        rw [List.getElem?_eq_getElem (by rw [HL.out]; exact hlt)] at hx
        exact Option.some.inj hx
      have hst := HGG.out
      rw [hdk, allT_step, ← List.append_assoc] at hst
      have hl64 := (next_len64 f depth hf (L x) ((xs.map L).drop (k + 1))).2
      have HNX := Lib.hid hnx
      have HST := Lib.hid hst
      have HLN := Lib.hid hl64
      clear hx hdk hst hl64 hnx
      go_upto_region 1 with fail
      go_quiet (fail)
      have hPq := hP.drewN nq
      have hbq := below_drewN' hb nq
      clear e0 e1 e2 ef
      generalize wr.drewN nq = wq at *
      go_wp2_with (go_at_call 27; refine (HNX.out _ hPq hbq).mono ?_; rintro e w1 ⟨k', rfl, hk', hP1, hD, b1⟩)
      go_roundw
      case rel =>
        refine ⟨k', _, ?_, ?_, hP1, hbq.trans b1⟩
        · rw [hD]; exact HST.out
        · have h1 := HLN.out
          have h2 := HNN.out
          rw [← hD, List.length_drop, List.length_drop, List.length_map, HL.out] at h1
          rw [List.length_append]
          omega
      case measure =>
        have h1 := HM.out
        have h2 := hP1.intAt
        simp at h2 ⊢
        rw [h1, h2]
        omega
    · have q1 : decide ((k : Int) < (n : Int)) = false := decide_eq_false (by omega)
      have hnil : (xs.map L).drop k = [] := List.drop_eq_nil_iff.2 (by rw [List.length_map, HL.out]; omega)
      have hgo := HGG.out
      rw [hnil, allT_nil, List.append_nil] at hgo
      subst hgo
      clear hnil
      go_upto_region 1 with fail
      go_quiet (fail)
      have hPq := hP.drewN nq
      have hbq := below_drewN' hb nq
      clear e0 e1 e2 ef
      generalize wr.drewN nq = wq at *
      obtain ⟨Ao, co, z3, hO⟩ := hPq.outCell
      go_wp2_with fail
      go_ret
      exact ⟨Ao, _, co, rfl, rfl, hO, hbq⟩
theorem all_ok : ∀ (f depth : Nat), f ≤ 31 → 14 ≤ f + depth → depth ≤ 12 → AllOk f depth
  | 0, depth, _, h1, h2 => by omega
  | f + 1, depth, h0, h1, h2 => all_step f depth (by omega) (by omega) (fun h => all_ok f (depth + 1) (by omega) (by omega) (by omega)) (fun h => all_ok f (depth + 2) (by omega) (by omega) (by omega))
end Go.Proofs.YtommebalgghdjaaDoor
