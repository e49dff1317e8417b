/-
  bowdlerlaw6.FrameDepths: its walk: it answers true, and turns nothing that was there.
-/
import Derived.Test.YtblmekpamdglkaaDoorDepthsLaw
import Derived.Test.YtblmekpamdglkaaDoorOpenTexts
import Derived.Deep.DeepCutAuto
namespace Go.Proofs.YtblmekpamdglkaaDoor
open Go.RowKit

theorem outN_take (out : List PartT) {k : Nat} {p : PartT} (h : out[k]? = some p) : outN (out.take (k + 1)) = outN (out.take k) + partN p := by
  rw [List.take_add_one, h, Option.toList_some, outN_app]; simp [outN]
theorem outN_take_le (out : List PartT) (k : Nat) : outN (out.take k) ≤ outN out := by
  conv => rhs; rw [← List.take_append_drop k out, outN_app]
  omega

theorem len_outN : ∀ (out : List PartT), (∀ p ∈ out, PartOk p) → out.length ≤ outN out
  | [], _ => Nat.zero_le _
  | a :: t, h => by
    have ih := len_outN t fun p hp => h p (by simp [hp])
    have h1 : 1 ≤ partN a := by
      obtain ⟨_, h2, _⟩ := h a (by simp)
      unfold partN
      cases hd : a.div
      · have := List.length_pos_iff.2 (h2 hd); omega
      · cases a.opn <;> simp
    simp only [outN, List.map_cons, List.sum_cons, List.length_cons] at ih ⊢
    omega
def DeepOk (st : FrS) (k : Nat) : Prop := (∀ p ∈ st.out, p.depth ≤ (k : Int)) ∧ st.ins.length ≤ k
theorem DeepOk.step {st : FrS} {k : Nat} (h : DeepOk st k) (s : ByteArray) : DeepOk (frStep st s) (k + 1) := by
  obtain ⟨h1, h2⟩ := h
  unfold frStep
  split
  · refine ⟨fun p hp => ?_, by simp; omega⟩
    rcases List.mem_append.1 hp with hp | hp
    · have := h1 p hp; omega
    · rw [List.mem_singleton.1 hp]; simp; omega
  · split
    · refine ⟨fun p hp => ?_, by simp; omega⟩
      simp only at hp
      unfold shutAt at hp
      split at hp
      · rename_i q hq
        rcases List.mem_or_eq_of_mem_set hp with hp | rfl
        · have := h1 p hp; omega
        · have := h1 q (List.mem_of_getElem? hq); simp; omega
      · have := h1 p hp; omega
    · split
      · refine ⟨fun p hp => ?_, by simp; omega⟩
        simp only at hp
        unfold addLast at hp
        split at hp
        · rename_i q hq
          rcases List.mem_append.1 hp with hp | hp
          · have := h1 p (List.dropLast_subset _ hp); omega
          · rw [List.mem_singleton.1 hp]
            have := h1 q (List.mem_of_getLast? hq); simp; omega
        · have := h1 p hp; omega
      · refine ⟨fun p hp => ?_, by simp; omega⟩
        rcases List.mem_append.1 hp with hp | hp
        · have := h1 p hp; omega
        · rw [List.mem_singleton.1 hp]; simp; omega
theorem deepOk_frT (ls : List ByteArray) : DeepOk (frT ls) ls.length := by
  have : ∀ (l : List ByteArray) (st : FrS) (k : Nat), DeepOk st k → DeepOk (l.foldl frStep st) (k + l.length) := by
    intro l
    induction l with
    | nil => intro st k h; exact h
    | cons x t ih =>
      intro st k h
      rw [List.foldl_cons, List.length_cons, show k + (t.length + 1) = k + 1 + t.length by omega]
      exact ih _ _ (h.step x)
  have := this ls ⟨[], [], false⟩ 0 ⟨by simp, by simp⟩
  simpa [frT] using this

set_option maxHeartbeats 25000000 in
set_option maxRecDepth 100000 in
theorem frameDepths_walk (A : Option Addr) (n cap : Nat) (l : List ByteArray) (w : World) (hg : Glb w) (hl : IsTexts w A n cap l) :
    Calls Tryd.prog 4 #[.slice A n cap] w fun e w' => e = .returned (.bool true) ∧ Below w.heap.size w w' := by
  obtain ⟨hr, hnc, hcm, hsz⟩ := hl
  have hmax : maxLen = 9223372036854775807 := rfl
  have hlen : l.length = n := by have := hr.1; simpa using this
  have hpl := plain_any A n cap w.heap.size l w hr (by omega) (fun x hx => by have := hsz x hx; omega)
  cases hpt : plainT l
  · rw [hpt] at hpl
    have HPL := Lib.hid hpl
    clear hpl
    go_enter Tryd.func4, Tryd.ntmps4
    go_wp2_with (first
      | (go_at_call 11; refine HPL.out.mono ?_; rintro e w0 ⟨rfl, hw0⟩; subst w0)
      | (go_at_call 9; refine (alive6_any _ hg).mono ?_; rintro e w1 ⟨rfl, b1⟩))
    go_ret
    exact ⟨rfl, b1⟩
  · rw [hpt] at hpl
    have HPL := Lib.hid hpl
    have hn60 : n ≤ 60 := by
      unfold plainT at hpt
      rw [Bool.and_eq_true] at hpt
      have := of_decide_eq_true hpt.2
      omega
    have hdep := depOk_frT l
    rw [hlen] at hdep
    have HD := Lib.hid hdep
    have HSZ := Lib.hid hsz
    clear hpl hpt hdep hsz
    go_enter Tryd.func4, Tryd.ntmps4
    go_wp2_with (first
      | (go_at_call 11; refine HPL.out.mono ?_; rintro e w0 ⟨rfl, hw0⟩; subst w0)
      | (go_at_call 9; refine (alive6_any _ hg).mono ?_; rintro e w1 ⟨rfl, b1⟩)
      | (go_at_call 12; refine (frParse_any A n cap w.heap.size l w1 (hr.below b1) b1.size (by omega) (fun x hx => by have := HSZ.out x hx; omega)).mono ?_; rintro e w2 ⟨A2, m, c2, ps, rfl, hP, hout, b2⟩))
    have hb2 := b1.trans (b2.mono b1.size)
    have hm := hP.len
    have hml : (frT l).out.length = m := by rw [← hout, List.length_map, hm]
    have hdeep := (deepOk_frT l).1
    rw [hlen] at hdeep
    obtain ⟨deach, dnext, dcount, _, _, _, _⟩ := HD.out
    have hm60 : m ≤ 60 := by
      have := len_outN _ deach
      rw [dcount] at this
      omega
    generalize (frT l).out = out at *
    have HE := Lib.hid deach
    have HX := Lib.hid dnext
    have HC := Lib.hid dcount
    have HDP := Lib.hid hdeep
    have HO := Lib.hid hout
    have HPP := Lib.hid hP
    have HM := Lib.hid hm
    clear HD deach dnext dcount hdeep hout hm b1 b2 HPL
    go_loopw [4, 18] (fun s4 s18 wr => ∃ i mm : Nat, i ≤ m ∧ s18 = .int .i64 i ∧ s4 = .int .i64 (outN (out.take i) : Int) ∧ wr = w2.drewN mm) (fun _ s18 _ => m - (intOf s18).toNat)
    case atStart => exact ⟨0, 0, Nat.zero_le _, rfl, rfl, rfl⟩
    case round =>
      obtain ⟨i, mm, hi, rfl, rfl, rfl⟩ := hrel
      have hle := outN_take_le out i
      rw [HC.out] at hle
      by_cases him : i < m
      · obtain ⟨p, hp⟩ : ∃ p, ps[i]? = some p := ⟨_, List.getElem?_eq_getElem (by rw [HM.out]; exact him)⟩
        have hpo : out[i]? = some p.t := by rw [← HO.out, List.getElem?_map, hp]; rfl
        obtain ⟨g, rfl, _, _⟩ := HPP.out.1.some_ (by omega)
        obtain ⟨e0, e1, _, e3, e4⟩ := HPP.out.cells_at hp
        obtain ⟨k1, k2, k3⟩ := HE.out p.t (List.mem_of_getElem? hpo)
        have hdp := HDP.out p.t (List.mem_of_getElem? hpo)
        have hT := outN_take out hpo
        have hle2 := outN_take_le out (i + 1)
        rw [HC.out] at hle2
        have q0 : decide (p.t.depth < 0) = false := decide_eq_false (by omega)
        have HT := Lib.hid hT
        rcases Nat.eq_zero_or_pos i with rfl | hpos
        · simp only [Nat.zero_mul, Nat.zero_add] at e0 e1 e3 e4
          have hz : outN ([] : List PartT) = 0 := rfl
          cases hdv : p.t.div
          · have hne : 0 < p.t.lines.length := List.length_pos_iff.2 (k2 hdv)
            have z1 : decide ((0 : Int) < (p.t.lines.length : Int)) = true := decide_eq_true (by omega)
            rw [hdv] at e1
            have hN : Hid (outN (out.take (0 + 1)) = outN (out.take 0) + p.t.lines.length) := Lib.hid (by rw [HT.out]; simp [partN, hdv])
            have hle3 : outN (out.take 0) + p.t.lines.length ≤ n := by rw [← hN.out]; exact hle2
            clear k1 k2 hT HT hp hpo hdv
            go_wp2_with fail
            dsimp only [List.append_eq, List.cons_append, List.nil_append]
            go_quiet (fail)
            go_wp2_with fail
            go_roundw
            case rel => exact ⟨0 + 1, mm + nq, by omega, by go_num, by rw [hN.out]; simp only [List.take_zero, hz]; go_num, rfl⟩
            case measure => simp [intOf]; omega
          · have hl0 : p.t.lines.length = 0 := by rw [k1 hdv]; rfl
            rw [hl0] at e4
            rw [hdv] at e1
            cases hop : p.t.opn
            · rw [hop] at e3
              have hN : Hid (outN (out.take (0 + 1)) = outN (out.take 0) + 2) := Lib.hid (by rw [HT.out]; simp [partN, hl0, hdv, hop])
              clear k1 k2 hT HT hp hpo hdv hop
              go_wp2_with fail
              dsimp only [List.append_eq, List.cons_append, List.nil_append]
              go_quiet (fail)
              go_wp2_with fail
              go_roundw
              case rel => exact ⟨0 + 1, mm + nq, by omega, by go_num, by rw [hN.out]; simp only [List.take_zero, hz]; go_num, rfl⟩
              case measure => simp [intOf]; omega
            · rw [hop] at e3
              have hN : Hid (outN (out.take (0 + 1)) = outN (out.take 0) + 1) := Lib.hid (by rw [HT.out]; simp [partN, hl0, hdv, hop])
              clear k1 k2 hT HT hp hpo hdv hop
              go_wp2_with fail
              dsimp only [List.append_eq, List.cons_append, List.nil_append]
              go_quiet (fail)
              go_wp2_with fail
              go_roundw
              case rel => exact ⟨0 + 1, mm + nq, by omega, by go_num, by rw [hN.out]; simp only [List.take_zero, hz]; go_num, rfl⟩
              case measure => simp [intOf]; omega
        · obtain ⟨k, hk⟩ : ∃ k, i = k + 1 := ⟨i - 1, by omega⟩
          obtain ⟨r, hr⟩ : ∃ r, ps[k]? = some r := ⟨_, List.getElem?_eq_getElem (by rw [HM.out]; omega)⟩
          have hro : out[k]? = some r.t := by rw [← HO.out, List.getElem?_map, hr]; rfl
          obtain ⟨f0, f1, _, _, _⟩ := HPP.out.cells_at hr
          obtain ⟨j1, j2⟩ := HX.out k r.t p.t hro (by rw [← hk]; exact hpo)
          have hdr := HDP.out r.t (List.mem_of_getElem? hro)
          obtain ⟨_, _, j3⟩ := HE.out r.t (List.mem_of_getElem? hro)
          have x1 : IntKind.wrap .i64 ((i : Int) - 1) = (i : Int) - 1 := IntWalk.i64_in _ (by omega)
          have x2 : (0 : Int) ≤ (i : Int) - 1 := by omega
          have x3 : ((i : Int) - 1).toNat = k := by omega
          have x4 : (i : Int) - 1 < (m : Int) := by omega
          have x5 : IntKind.wrap .i64 (r.t.depth + 1) = r.t.depth + 1 := IntWalk.i64_in _ (by omega)
          have x6 : decide (r.t.depth + 1 < p.t.depth) = false := decide_eq_false (by omega)
          have x7 : decide ((0 : Int) < (i : Int)) = true := decide_eq_true (by omega)
          cases hdv : p.t.div
          · have hne : 0 < p.t.lines.length := List.length_pos_iff.2 (k2 hdv)
            have z1 : decide ((0 : Int) < (p.t.lines.length : Int)) = true := decide_eq_true (by omega)
            rw [hdv] at e1
            have hN : Hid (outN (out.take (i + 1)) = outN (out.take i) + p.t.lines.length) := Lib.hid (by rw [HT.out]; simp [partN, hdv])
            have hle3 : outN (out.take i) + p.t.lines.length ≤ n := by rw [← hN.out]; exact hle2
            cases hrd : r.t.div
            · have y1 : (p.t.depth == r.t.depth) = false := beq_eq_false_iff_ne.2 fun e => j2 ⟨hdv, hrd, e⟩
              rw [hrd] at f1
              clear k1 k2 hT HT hp hpo hdv hk hr hro j1 j2 hrd
              go_wp2_with fail
              dsimp only [List.append_eq, List.cons_append, List.nil_append]
              go_quiet (fail)
              go_wp2_with fail
              go_roundw
              case rel => exact ⟨i + 1, mm + nq, by omega, by go_num, by rw [hN.out]; go_num, rfl⟩
              case measure => simp [intOf]; omega
            · rw [hrd] at f1
              clear k1 k2 hT HT hp hpo hdv hk hr hro j1 j2 hrd
              go_wp2_with fail
              dsimp only [List.append_eq, List.cons_append, List.nil_append]
              go_quiet (fail)
              go_wp2_with fail
              go_roundw
              case rel => exact ⟨i + 1, mm + nq, by omega, by go_num, by rw [hN.out]; go_num, rfl⟩
              case measure => simp [intOf]; omega
          · have hl0 : p.t.lines.length = 0 := by rw [k1 hdv]; rfl
            rw [hl0] at e4
            rw [hdv] at e1
            cases hop : p.t.opn
            · rw [hop] at e3
              have hN : Hid (outN (out.take (i + 1)) = outN (out.take i) + 2) := Lib.hid (by rw [HT.out]; simp [partN, hl0, hdv, hop])
              clear k1 k2 hT HT hp hpo hdv hop hk hr hro j1 j2
              go_wp2_with fail
              dsimp only [List.append_eq, List.cons_append, List.nil_append]
              go_quiet (fail)
              go_wp2_with fail
              go_roundw
              case rel => exact ⟨i + 1, mm + nq, by omega, by go_num, by rw [hN.out]; go_num, rfl⟩
              case measure => simp [intOf]; omega
            · rw [hop] at e3
              have hN : Hid (outN (out.take (i + 1)) = outN (out.take i) + 1) := Lib.hid (by rw [HT.out]; simp [partN, hl0, hdv, hop])
              clear k1 k2 hT HT hp hpo hdv hop hk hr hro j1 j2
              go_wp2_with fail
              dsimp only [List.append_eq, List.cons_append, List.nil_append]
              go_quiet (fail)
              go_wp2_with fail
              go_roundw
              case rel => exact ⟨i + 1, mm + nq, by omega, by go_num, by rw [hN.out]; go_num, rfl⟩
              case measure => simp [intOf]; omega
      · have him2 : i = m := by omega
        subst him2
        have hall : outN (out.take i) = n := by
          rw [List.take_of_length_le (by rw [← HO.out, List.length_map, HM.out]; omega), HC.out]
        rw [hall]
        go_wp2_with fail
        go_ret
        exact ⟨rfl, below_drewN' hb2 _⟩
end Go.Proofs.YtblmekpamdglkaaDoor
