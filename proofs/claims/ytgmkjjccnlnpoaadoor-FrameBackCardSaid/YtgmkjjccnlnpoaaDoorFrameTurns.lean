/-
  bowdlerlaw6.FrameTurns: its walk: it answers true, and turns nothing that was there.
-/
import Derived.Test.YtgmkjjccnlnpoaaDoorTurnsLaw
import Derived.Test.YtgmkjjccnlnpoaaDoorWrite7
import Derived.Test.YtgmkjjccnlnpoaaDoorSamePartsE
import Derived.Test.YtgmkjjccnlnpoaaDoorOpenParts
namespace Go.Proofs.YtgmkjjccnlnpoaaDoor
open Go.RowKit

theorem plain_lines {ls : List ByteArray} (h : plainT ls = true) : ls.length ≤ 60 ∧ ∀ x ∈ ls, x.size ≤ 100 ∧ 10 ∉ L x := by
  unfold plainT at h
  rw [Bool.and_eq_true, decide_eq_true_eq, List.all_eq_true] at h
  refine ⟨h.2, fun x hx => ?_⟩
  have := h.1 x hx
  unfold plainX at this
  rw [Bool.and_eq_true, decide_eq_true_eq] at this
  refine ⟨this.1, fun hm => ?_⟩
  rw [List.contains_iff_mem.2 hm] at this
  simp at this
theorem lineN_le {l : List PartT} (h : ∀ p ∈ l, p.lines.length ≤ 60) : lineN l ≤ 62 * l.length := by
  induction l with
  | nil => simp [lineN]
  | cons x t ih =>
    have h1 := h x (by simp)
    have h2 := ih fun p hp => h p (by simp [hp])
    unfold lineN at h2 ⊢
    simp only [List.map_cons, List.sum_cons, List.length_cons]
    omega
theorem lines6_len (l : List PartT) : (lines6 l).length ≤ lineN l := by
  have h1 := wrFold_len l l.length
  rw [List.take_length] at h1
  have h2 := notOpn_le (wrFold l).inn
  unfold lines6
  rw [List.length_append, List.length_replicate]
  omega
/-- what is written is short, too -/
theorem lines6_size {l : List PartT} (h : ∀ p ∈ l, p.label.size ≤ 100 ∧ ∀ x ∈ p.lines, x.size ≤ 1000) : ∀ x ∈ lines6 l, x.size ≤ 1000 := by
  have hs : shutB.size = 3 := rfl
  have key : ∀ k, ∀ x ∈ (wrFold (l.take k)).out, x.size ≤ 1000 := by
    intro k
    induction k with
    | zero => simp [wrFold, wrInit]
    | succ k ih =>
      rcases hk : l[k]? with _ | y
      · have : l.length ≤ k := by rw [List.getElem?_eq_none_iff] at hk; exact hk
        rw [List.take_of_length_le (by omega)] at ih ⊢
        exact ih
      · rw [List.take_add_one, hk, Option.toList_some, wrFold_snoc]
        obtain ⟨g1, g2⟩ := h y (List.mem_of_getElem? hk)
        intro x hx
        unfold wrStep at hx
        simp only [List.mem_append] at hx
        rcases hx with ((hx | hx) | hx) | hx
        · exact ih x hx
        · rw [(List.mem_replicate.1 hx).2, hs]; omega
        · split at hx
          · rw [List.mem_singleton.1 hx]
            unfold openB
            rw [ByteArray.size_append, ByteArray.size_append]
            have : (⟨#[58, 58, 58, 123]⟩ : ByteArray).size = 4 := rfl
            have : (⟨#[125]⟩ : ByteArray).size = 1 := rfl
            omega
          · cases hx
        · exact g2 x hx
  intro x hx
  unfold lines6 at hx
  rcases List.mem_append.1 hx with hx | hx
  · have := key l.length x
    rw [List.take_length] at this
    exact this hx
  · rw [(List.mem_replicate.1 hx).2, hs]; omega

set_option maxHeartbeats 8000000 in
set_option maxRecDepth 100000 in
theorem frameTurns_walk (A : Option Addr) (n cap : Nat) (ps : List PartR) (w : World) (hg : Glb w) (hl : IsParts w A n cap ps) :
    Calls Tryd.prog 6 #[.slice A n cap] w fun e w' => e = .returned (.bool true) ∧ Below w.heap.size w w' := by
  obtain ⟨hr, hnc, hcm, hz⟩ := hl
  have hmax : maxLen = 9223372036854775807 := rfl
  have HL := Lib.hid hr.len
  by_cases h30 : 30 < n
  · go_enter Tryd.func6, Tryd.ntmps6
    go_wp2_with (go_at_call 7; refine (alive6_any _ hg).mono ?_; rintro e w1 ⟨rfl, b1⟩)
    go_ret
    exact ⟨rfl, b1⟩
  go_enter Tryd.func6, Tryd.ntmps6
  go_wp2_with (go_at_call 7; refine (alive6_any _ hg).mono ?_; rintro e w1 ⟨rfl, b1⟩)
  have hr1 := hr.below b1
  have hz1 := b1.size
  go_loop [16] (fun s => ∃ k, k ≤ n ∧ s = .int .i64 k ∧ ∀ p ∈ ps.take k, plainT p.t.lines = true ∧ p.t.label.size ≤ 100) (fun s => n - (intOf s).toNat)
  case atStart => exact ⟨0, Nat.zero_le _, rfl, by simp⟩
  case round =>
    obtain ⟨k, hk, rfl, hall⟩ := hrel
    have HALL := Lib.hid hall
    clear hall
    by_cases hlt : k < n
    · obtain ⟨p, hp⟩ : ∃ p, ps[k]? = some p := ⟨_, List.getElem?_eq_getElem (by rw [HL.out]; exact hlt)⟩
      obtain ⟨ad, rfl, _, c0, c1, c2, c3, c4⟩ := hr1.1.part hp hlt
      obtain ⟨⟨z1, z2⟩, z3⟩ := hz p (List.mem_of_getElem? hp)
      have hlr := hr1.2 p (List.mem_of_getElem? hp)
      have hTK : ∀ (_ : plainT p.t.lines = true) (_ : p.t.label.size ≤ 100), ∀ q ∈ ps.take (k + 1), plainT q.t.lines = true ∧ q.t.label.size ≤ 100 := fun g1 g2 q hq => by
        rw [List.take_add_one, hp, Option.toList_some, List.mem_append, List.mem_singleton] at hq
        rcases hq with hq | rfl
        · exact HALL.out q hq
        · exact ⟨g1, g2⟩
      have HTK := Lib.hid hTK
      clear hp hTK
      obtain ⟨⟨d, v, lb, o, ls⟩, la, lc⟩ := p
      simp only at c0 c1 c2 c3 c4 z1 z2 z3 hlr HTK
      have HPL := Lib.hid (plain_any la ls.length lc w.heap.size ls w1 hlr z3 z2)
      generalize ls.length = m at *
      cases hpt : plainT ls
      · rw [hpt] at HPL
        go_wp2_with (go_at_call 11; refine HPL.out.mono ?_; rintro e w0 ⟨rfl, hw0⟩; subst w0)
        go_ret
        exact ⟨rfl, b1⟩
      · rw [hpt] at HPL
        by_cases hlb : 100 < lb.size
        · go_wp2_with (go_at_call 11; refine HPL.out.mono ?_; rintro e w0 ⟨rfl, hw0⟩; subst w0)
          go_ret
          exact ⟨rfl, b1⟩
        · have HT := Lib.hid (HTK.out hpt (by omega))
          go_wp2_with (go_at_call 11; refine HPL.out.mono ?_; rintro e w0 ⟨rfl, hw0⟩; subst w0)
          go_round
          case rel => exact ⟨k + 1, by omega, by go_num, HT.out⟩
          case measure => simp [intOf]; omega
    · have hkn : k = n := by omega
      subst hkn
      have hall := HALL.out
      rw [List.take_of_length_le (by rw [HL.out]; omega)] at hall
      have hln : lineN (ps.map (·.t)) ≤ 62 * k := by
        have := lineN_le (l := ps.map (·.t)) (fun p hp => by
          obtain ⟨q, hq, rfl⟩ := List.mem_map.1 hp
          exact (plain_lines (hall q hq).1).1)
        rwa [List.length_map, HL.out] at this
      have hsz := lines6_size (l := ps.map (·.t)) (fun p hp => by
        obtain ⟨q, hq, rfl⟩ := List.mem_map.1 hp
        exact ⟨(hall q hq).2, fun x hx => by have := ((plain_lines (hall q hq).1).2 x hx).1; omega⟩)
      have h6 := lines6_len (ps.map (·.t))
      have hps : ∀ p ∈ ps, p.t.lines.length ≤ 1048576 := fun p hp => by have := (plain_lines (hall p hp).1).1; omega
      have hwr := write6_any A k cap w.heap.size ps w1 hr1 (by omega) hz1 hz (by omega)
      have hrt : ∀ w2, Below w.heap.size w w2 → Calls Tryd.prog 14 #[.slice A k cap] w2 fun e w' => e = .returned (.bool (right6 (ps.map (·.t)))) ∧ Below w2.heap.size w2 w' :=
        fun w2 b2 => right6_any A k cap w.heap.size ps w2 (hr.below b2) (by omega) b2.size hz
      unfold write6 at hwr
      cases hR : right6 (ps.map (·.t))
      · rw [hR] at hwr hrt
        have HW := Lib.hid hwr
        have HRT := Lib.hid hrt
        clear hwr hrt hall
        go_wp2_with (first
          | (go_at_call 13; refine HW.out.mono ?_; rintro e w2 ⟨A', c', rfl, _, b2⟩; have hb2 := b1.trans (b2.mono hz1))
          | (go_at_call 14; refine (HRT.out _ hb2).mono ?_; rintro e w3 ⟨rfl, b3⟩))
        go_ret
        exact ⟨rfl, hb2.trans (b3.mono hb2.size)⟩
      · rw [hR, if_pos rfl] at hwr
        have htl := turns_law hR
        have hpar : ∀ (A' : Option Addr) (c' : Nat) (w2 : World), Own w2 w1.heap.size 9 1 A' (lines6 (ps.map (·.t))).length c' (txCells (lines6 (ps.map (·.t)))) → Calls Tryd.prog 12 #[.slice A' (lines6 (ps.map (·.t))).length c'] w2
            fun e w' => ∃ A'' m'' c'' qs, e = .returned (.slice A'' m'' c'') ∧ Parts w' w2.heap.size A'' m'' c'' qs ∧ qs.map (·.t) = ps.map (·.t) ∧ Below w2.heap.size w2 w' := fun A' c' w2 ho => by
          have := frParse_any A' (lines6 (ps.map (·.t))).length c' w2.heap.size (lines6 (ps.map (·.t))) w2 ho.reads (Nat.le_refl _) (by omega) (fun x hx => by have := hsz x hx; omega)
          rwa [htl] at this
        have HW := Lib.hid hwr
        have HPA := Lib.hid hpar
        have HPS := Lib.hid hps
        clear hwr hpar hall htl hsz h6 hps hrt
        generalize lines6 (ps.map (·.t)) = l6 at *
        go_wp2_with (first
          | (go_at_call 13; refine HW.out.mono ?_; rintro e w2 ⟨A', c', rfl, how, b2⟩; have hb2 := b1.trans (b2.mono hz1))
          | (go_at_call 12; refine (HPA.out _ _ _ how).mono ?_; rintro e w3 ⟨A'', m'', c'', qs, rfl, hP, hqs, b3⟩; have hb3 := hb2.trans (b3.mono hb2.size))
          | (go_at_call 15; refine (sameParts_eq A'' A m'' c'' k cap w3.heap.size qs ps _ hP.reads ⟨(hr.1.below hb3).more hb3.size, fun p hp => ((hr.2 p hp).below hb3).more hb3.size⟩ hqs (Nat.le_refl _) (by have h1 := hP.len; have h2 := congrArg List.length hqs; rw [List.length_map, List.length_map] at h2; have := HL.out; omega)
              (fun p hp => by
                have hm : p.t ∈ ps.map (·.t) := by rw [← hqs]; exact List.mem_map_of_mem hp
                obtain ⟨q, hq, e⟩ := List.mem_map.1 hm
                rw [← e]
                exact HPS.out q hq)).mono ?_
             rintro e w4 ⟨rfl, b4⟩))
        go_ret
        exact ⟨rfl, hb3.trans (b4.mono hb3.size)⟩
end Go.Proofs.YtgmkjjccnlnpoaaDoor
