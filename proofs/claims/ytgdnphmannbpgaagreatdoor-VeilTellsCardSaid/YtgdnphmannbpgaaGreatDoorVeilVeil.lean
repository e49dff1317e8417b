/-
  (*veil.Seer).Veil: its contract.
-/
import Derived.Test.YtgdnphmannbpgaaGreatDoorGF
import Derived.Test.YtgdnphmannbpgaaGreatDoorGB
import Derived.Deep.RegionHeld3
import Derived.Deep.DeepCutAuto
namespace Go.Proofs.YtgdnphmannbpgaaGreatDoor
open Go.RowKit
set_option linter.unusedVariables false

theorem outN_ge7 (out : List PartT) (h : ∀ p ∈ out, PartOk p) : out.length ≤ outN out := by
  induction out with
  | nil => exact Nat.zero_le _
  | cons p t ih =>
    have h1 := ih (fun q hq => h q (by simp [hq]))
    obtain ⟨a, b, _⟩ := h p (by simp)
    have h2 : 1 ≤ partN p := by
      unfold partN
      cases hd : p.div
      · have := List.length_pos_iff.2 (b hd); omega
      · simp; split <;> omega
    simp only [outN, List.map_cons, List.sum_cons, List.length_cons] at h1 ⊢
    omega
/-- how large what Veil keeps may be -/
theorem veil_bounds (s : SeerT) (text : ByteArray) (h : text.size ≤ 200000) :
    (partsOf text).length ≤ 800001 ∧ lineN (veFold s (partsOf text)).out ≤ 2400003 ∧ (∀ p ∈ (veFold s (partsOf text)).out, SzOk 800004 p) ∧ (joinT ((write6 (veFold s (partsOf text)).out).map L)).length ≤ 140737488355328 := by
  have h1 : (S (repT text)).size ≤ 800000 := by rw [size_S]; have := repT_le text; omega
  have h2 := linesB_len7 (S (repT text))
  have h3 : ∀ p ∈ partsOf text, SzOk 800000 p := frT_sz 800000 _ (fun x hx => by have := linesB_mem7 _ x hx; omega)
  have hd := depOk_frT (linesB (S (repT text)))
  have h4 := lineN3_le (partsOf text) hd.each
  have h5 := outN_ge7 (partsOf text) hd.each
  have h6 : outN (partsOf text) = (linesB (S (repT text))).length := hd.count
  have h7 := veFold_lineN s (partsOf text)
  have h8 := veFold_sz s 800000 _ h3
  refine ⟨by omega, by omega, h8, ?_⟩
  unfold write6
  split
  · have h9 := lines6_len7 (veFold s (partsOf text)).out
    have := join_le7 800009 _ (lines6_size7 h8)
    have h10 : (lines6 (veFold s (partsOf text)).out).length * (800009 + 1) ≤ 2400003 * (800009 + 1) := Nat.mul_le_mul_right _ (by omega)
    omega
  · simp [joinT]

theorem depth_le7 (ls : List ByteArray) : ∀ (k : Nat) (p : PartT), (frT ls).out[k]? = some p → p.depth ≤ k := by
  intro k
  induction k with
  | zero =>
    intro p hp
    have h1 : p.depth = 0 := fits_at ls hp
    omega
  | succ k ih =>
    intro p hp
    have hk := (List.getElem?_eq_some_iff.1 hp).1
    obtain ⟨q, hq⟩ : ∃ q, (frT ls).out[k]? = some q := ⟨_, List.getElem?_eq_getElem (by omega)⟩
    have h1 := fits_at ls hp
    have h2 : prevOf (frT ls).out (k + 1) = some q := hq
    rw [h2] at h1
    have h3 : p.depth ≤ q.depth + if q.div then 1 else 0 := h1
    have := ih q hq
    split at h3 <;> omega
/-- the first j turned -/
def mixL (f : ByteArray → ByteArray) (l : List ByteArray) (j : Nat) : List ByteArray := (l.take j).map f ++ l.drop j
theorem mixL_len (f : ByteArray → ByteArray) (l : List ByteArray) (j : Nat) : (mixL f l j).length = l.length := by
  unfold mixL
  rw [List.length_append, List.length_map, ← List.length_append, List.take_append_drop]
theorem mixL_get (f : ByteArray → ByteArray) {l : List ByteArray} {k : Nat} {x : ByteArray} (h : l[k]? = some x) : (mixL f l k)[k]? = some x := by
  have hk := (List.getElem?_eq_some_iff.1 h).1
  unfold mixL
  rw [List.getElem?_append_right (by simp; omega)]
  simp only [List.length_map, List.length_take, List.getElem?_drop]
  rw [show k + (k - min k l.length) = k by omega, h]
theorem mixL_set (f : ByteArray → ByteArray) {l : List ByteArray} {k : Nat} {x : ByteArray} (h : l[k]? = some x) : (mixL f l k).set k (f x) = mixL f l (k + 1) := by
  have hk := (List.getElem?_eq_some_iff.1 h).1
  unfold mixL
  rw [List.set_append_right _ _ (by simp; omega), List.take_add_one, h, drop_one h]
  simp only [List.length_map, List.length_take, Option.toList_some, List.map_append, List.map_cons, List.map_nil, List.append_assoc, List.cons_append, List.nil_append]
  rw [show k - min k l.length = 0 by omega, List.set_cons_zero]
theorem mixL_all (f : ByteArray → ByteArray) (l : List ByteArray) : mixL f l l.length = l.map f := by
  unfold mixL
  rw [List.take_length, List.drop_length, List.append_nil]
def partR (p : PartR) (ls : List ByteArray) : PartR := ⟨{ p.t with lines := ls }, p.la, p.lc⟩

set_option maxHeartbeats 8000000 in
set_option maxRecDepth 100000 in
theorem veil_any (g K : Nat) (s : SeerT) (text : ByteArray) (w : World) (hgl : Glb w) (h : SeerR w K g s) (ok : SeerOk s) (hK : K ≤ w.heap.size) (hl : text.size ≤ 200000) :
    Calls Tryz.prog 10 #[.pointer (some ⟨g, 0, none⟩), .string text] w fun e w' => e = .returned (.string (veilT s text)) ∧ Below w.heap.size w w' := by
  obtain ⟨V, hV⟩ : ∃ V, veilT s text = V := ⟨_, rfl⟩
  rw [hV]
  have HV := Lib.hid hV
  clear hV
  have hgK := h.glt
  have HS := Lib.hid h
  clear h
  go_enter Tryz.func10, Tryz.ntmps10
  go_upto_region 6 with fail
  go_wp2_with (first
    | (go_at_call 31; refine (repair_any text w (by omega)).mono ?_; rintro e w1 ⟨rfl, b1⟩
       have g1 := hgl.below b1
       have hz1 : (S (repT text)).size ≤ 800000 := by rw [size_S]; have := repT_le text; omega)
    | (go_at_call 30; refine (split_any _ w1 g1 (by omega)).mono ?_; rintro e w2 ⟨A2, n2, c2, rfl, o2, b2⟩
       have bb2 := b1.trans (b2.mono b1.size)
       have hn2 : n2 ≤ 800001 := by have h1 := o2.len; have h2 := linesB_len7 (S (repT text)); simp at h1; omega)
    | (go_at_call 29; refine (frParse_any A2 n2 c2 w2.heap.size _ w2 o2.reads (Nat.le_refl _) (by omega) (fun x hx => by have := linesB_mem7 _ x hx; omega)).mono ?_; rintro e w3 ⟨A3, m, c3, ps, rfl, P3, hps, b3⟩
       have bb3 := bb2.trans (b3.mono bb2.size)))
  have hpt : ps.map (·.t) = partsOf text := hps
  have HPT := Lib.hid hpt
  clear hpt hps
  -- B: behind the parts; the own rows of the walk (out, under) lie from there on
  have hm := P3.len
  have HM := Lib.hid hm
  clear hm
  have HQ3 : Hid (∀ a, A3 = some a → a.block < w3.heap.size) := Lib.hid fun a ha => (P3.1.lt ha).2
  have HL3 : Hid (∀ p ∈ ps, ∀ a, p.la = some a → a.block < w3.heap.size) := Lib.hid fun p hp a ha => ((P3.2.1 p hp).lt ha).2
  go_loopw [5, 6, 7, 21] (fun s5 s6 s7 s21 wr => ∃ (k : Nat) (cur out : List PartR) (A5 : Option Addr) (c5 : Nat) (A6 : Option Addr) (c6 : Nat) (st : VeS), k ≤ m ∧ s21 = .int .i64 k ∧ st = veFold s ((ps.map (·.t)).take k) ∧
    s5 = .slice A5 out.length c5 ∧ s6 = .slice A6 st.under.length c6 ∧ s7 = .int .i64 st.hid ∧ out.map (·.t) = st.out ∧ (∀ p ∈ out, p ∈ cur.take k) ∧ cur.length = m ∧ cur.drop k = ps.drop k ∧ out.length ≤ k ∧
    Parts wr w2.heap.size A3 m c3 cur ∧ Own wr w3.heap.size 67 5 A5 out.length c5 (partCells out) ∧ Own wr w3.heap.size 9 1 A6 st.under.length c6 (txCells st.under) ∧ Below w.heap.size w wr ∧ w3.heap.size ≤ wr.heap.size)
    (fun _ _ _ s21 _ => m - (intOf s21).toNat)
  case atStart =>
    refine ⟨0, ps, [], none, 0, none, 0, ⟨[], [], -1⟩, Nat.zero_le _, rfl, rfl, rfl, rfl, rfl, rfl, by simp, HM.out, rfl, Nat.le_refl _, P3, Own.nil _ _ _ _, Own.nil _ _ _ _, bb3, Nat.le_refl _⟩
  case round =>
    clear P3 o2
    obtain ⟨k, cur, out, A5, c5, A6, c6, st, hk, rfl, hst, rfl, rfl, rfl, hou, hin, hcl, hdr, hol, hP, hO5, hO6, hbw, hz3⟩ := hrel
    have hmm : m ≤ 800001 := by
      have h0 := (veil_bounds s text hl).1
      have := HM.out
      have h2 := congrArg List.length HPT.out
      rw [List.length_map] at h2
      omega
    by_cases hlt : k < m
    · obtain ⟨p, hp⟩ : ∃ p, cur[k]? = some p := ⟨_, List.getElem?_eq_getElem (by omega)⟩
      have hpk : ps[k]? = some p := by
        have := congrArg (fun l => l[0]?) hdr
        simp only [List.getElem?_drop, Nat.add_zero] at this
        rw [← this]; exact hp
      have hpt : (ps.map (·.t))[k]? = some p.t := by rw [List.getElem?_map, hpk]; rfl
      have HSTEP := Lib.hid (veFold_take s hpt)
      have HROOM : Hid (skipT st p.t = false → 0 ≤ p.t.depth ∧ p.t.depth.toNat ≤ st.under.length) := Lib.hid fun hs => by
        have h1 := HPT.out
        unfold partsOf at h1
        rw [h1] at hpt hst
        rw [hst] at hs ⊢
        exact veRoom s _ hpt hs
      have HPK := Lib.hid hpk
      have HST := Lib.hid hst
      have HDR := Lib.hid hdr
      have HCL := Lib.hid hcl
      obtain ⟨q, hA3, hq1, hq2⟩ := hP.1.some_ (by omega)
      subst hA3
      obtain ⟨e0, e1, e2, e3, e4⟩ := hP.cells_at hp
      have HP' := Lib.hid hp
      clear hpk hpt hst hdr hcl hp
      cases hsk : skipT st p.t
      · have HSK := Lib.hid hsk
        obtain ⟨r0, r1⟩ := HROOM.out hsk
        obtain ⟨d, hd⟩ := Int.eq_ofNat_of_zero_le r0
        have c6le := hO6.cap
        have x9 : 0 ≤ st.hid → ¬ st.hid < p.t.depth := fun h1 h2 => by
          unfold skipT at hsk
          simp [h1] at hsk
          omega
        clear hsk
        obtain ⟨uu, huu⟩ : ∃ uu, openU st p.t = uu := ⟨_, rfl⟩
        obtain ⟨hh, hhh⟩ : ∃ hh, (if p.t.div && !seesT s uu then p.t.depth else -1) = hh := ⟨_, rfl⟩
        have HNX : Hid (veFold s ((ps.map (·.t)).take (k + 1)) = ⟨st.out ++ [veilP s uu p.t], uu, hh⟩) := Lib.hid (by
          rw [HSTEP.out, ← HST.out]; unfold veStep; rw [HSK.out, huu, hhh]; rfl)
        have r2 : d ≤ st.under.length := by rw [hd] at r1; simpa using r1
        have hdk : d ≤ 800001 := by
          have h1 := HPT.out
          unfold partsOf at h1
          have h2 : (ps.map (·.t))[k]? = some p.t := by rw [List.getElem?_map, HPK.out]; rfl
          rw [h1] at h2
          have := depth_le7 _ k p.t h2
          omega
        have huT : p.t.div = true → uu = st.under.take d ++ [p.t.label] := fun h1 => by
          rw [← huu]; unfold openU; rw [h1, hd]; rfl
        have huF : p.t.div = false → uu = st.under.take d := fun h1 => by
          rw [← huu]; unfold openU; rw [h1, hd]; simp
        have hhT : p.t.div = true → hh = if seesT s uu then -1 else (d : Int) := fun h1 => by
          rw [← hhh, h1, hd]; cases seesT s uu <;> rfl
        have hhF : p.t.div = false → hh = -1 := fun h1 => by rw [← hhh, h1]; rfl
        have hul : uu.length ≤ 800002 := by
          cases hdv : p.t.div
          · rw [huF hdv, List.length_take]; omega
          · rw [huT hdv, List.length_append, List.length_take, List.length_singleton]; omega
        have HPO : Hid (PartOk p.t ∧ SzOk 800000 p.t) := Lib.hid (by
          have h0 : p.t ∈ partsOf text := by rw [← HPT.out]; exact List.mem_map_of_mem (List.mem_of_getElem? HPK.out)
          refine ⟨(depOk_frT (linesB (S (repT text)))).each p.t h0, ?_⟩
          exact frT_sz 800000 _ (fun x hx => by have := linesB_mem7 _ x hx; omega) p.t h0)
        have HUT := Lib.hid huT
        have HUF := Lib.hid huF
        have HHT := Lib.hid hhT
        have HHF := Lib.hid hhF
        clear huT huF hhT hhF huu hhh r1 r0
        rw [hd] at e0 x9
        go_upto_region 9 with fail
        go_cut [32] (fun s32 wx => s32 = .bool false ∧ wx = wr.alloc (.cells #[.int .i64 (d : Int), .bool p.t.div, .string p.t.label, .bool p.t.opn, .slice p.la p.t.lines.length p.lc] 67))
        case first =>
          rcases Int.lt_or_le st.hid 0 with hn | hn
          · go_wp2_with fail
            go_meet
            exact ⟨rfl, rfl⟩
          · have x10 := x9 hn
            go_wp2_with fail
            go_meet
            exact ⟨rfl, rfl⟩
        case rest =>
        obtain ⟨rfl, hwW⟩ := hcut
        rw [hwW]
        clear hwW
        apply_assumption
        have hB9 := Blk.new wr 67 #[.int .i64 (d : Int), .bool p.t.div, .string p.t.label, .bool p.t.opn, .slice p.la p.t.lines.length p.lc]
        have hP9 := hP.alloc (.cells #[.int .i64 (d : Int), .bool p.t.div, .string p.t.label, .bool p.t.opn, .slice p.la p.t.lines.length p.lc] 67)
        have hO59 := hO5.alloc (.cells #[.int .i64 (d : Int), .bool p.t.div, .string p.t.label, .bool p.t.opn, .slice p.la p.t.lines.length p.lc] 67)
        have hO69 := (hO6.take r2).alloc (.cells #[.int .i64 (d : Int), .bool p.t.div, .string p.t.label, .bool p.t.opn, .slice p.la p.t.lines.length p.lc] 67)
        have hbw9 := hbw.alloc hbw.size (.cells #[.int .i64 (d : Int), .bool p.t.div, .string p.t.label, .bool p.t.opn, .slice p.la p.t.lines.length p.lc] 67)
        have hz9 : (wr.alloc (.cells #[.int .i64 (d : Int), .bool p.t.div, .string p.t.label, .bool p.t.opn, .slice p.la p.t.lines.length p.lc] 67)).heap.size = wr.heap.size + 1 := by simp
        have htk : (txCells st.under).take (d * 1) = txCells (st.under.take d) := by simp [txCells, List.map_take]
        rw [htk] at hO69
        obtain ⟨g9, hg9⟩ : ∃ g9, wr.heap.size = g9 := ⟨_, rfl⟩
        rw [hg9] at hB9 hz9 hz3
        rw [hg9]
        have HG9 := Lib.hid hg9
        clear hg9
        generalize wr.alloc (.cells #[.int .i64 (d : Int), .bool p.t.div, .string p.t.label, .bool p.t.opn, .slice p.la p.t.lines.length p.lc] 67) = w9 at *
        have hz90 : w.heap.size ≤ w9.heap.size := hbw9.size
        have hHZ : g9 < w9.heap.size := by omega
        clear hz9 htk hP hO5 hO6 hbw e0 e1 e2 e3 e4
        have k0 : w9.cell? ⟨g9, 0, none⟩ = some (.int .i64 (d : Int)) := hB9.cell 0
        have k1 : w9.cell? ⟨g9, 0 + 1, none⟩ = some (.bool p.t.div) := hB9.cell 1
        have k2 : w9.cell? ⟨g9, 0 + 2, none⟩ = some (.string p.t.label) := hB9.cell 2
        have hRD := hO69.reads
        have HWI := Lib.hid (with_any A6 d c6 w9.heap.size (st.under.take d) p.t.label w9 hRD (Nat.le_refl _) (by omega))
        have HGL := Lib.hid hgl
        go_upto_region 12 with fail
        go_cut [38] (fun s38 wx => s38 = .bool p.t.div ∧ wx = w9)
        case first =>
          go_wp2_with fail
          go_meet
          exact ⟨rfl, rfl⟩
        case rest =>
        obtain ⟨rfl, hwW⟩ := hcut
        rw [hwW]
        clear hwW
        apply_assumption
        go_cut [6, 7] (fun s6 s7 wx => ∃ (A7 : Option Addr) (c7 : Nat), s6 = .slice A7 uu.length c7 ∧ s7 = .int .i64 hh ∧ Blk wx g9 67 #[.int .i64 (d : Int), .bool p.t.div, .string p.t.label, .bool p.t.opn, .slice p.la p.t.lines.length p.lc] ∧
          Own wx w3.heap.size 9 1 A7 uu.length c7 (txCells uu) ∧ Parts wx w2.heap.size (some ⟨q, 0, none⟩) m c3 cur ∧ Own wx w3.heap.size 67 5 A5 out.length c5 (partCells out) ∧ Below w.heap.size w wx ∧ g9 < wx.heap.size)
        case first =>
          cases hdv : p.t.div
          · have hu := HUF.out hdv
            have hh1 := HHF.out hdv
            rw [hdv] at k1
            have HU := Lib.hid hu
            have HH1 := Lib.hid hh1
            clear hu hh1
            go_wp2_with fail
            go_meet
            rw [HU.out, HH1.out]
            have : (st.under.take d).length = d := by rw [List.length_take]; omega
            rw [this]
            exact ⟨A6, c6, rfl, rfl, hB9, hO69, hP9, hO59, hbw9, hHZ⟩
          · have hu := HUT.out hdv
            have hh1 := HHT.out hdv
            rw [hdv] at k1
            have hul1 : uu.length = d + 1 := by rw [hu, List.length_append, List.length_take, List.length_singleton]; omega
            rw [← hu] at HWI
            have HSEE := Lib.hid (fun (A8 : Option Addr) (c8 : Nat) (w10 : World) (b10 : Below w9.heap.size w9 w10) (h10 : Reads w10 w10.heap.size 1 A8 (d + 1) (txCells uu)) =>
              sees_at g K s A8 (d + 1) c8 uu w10 (HS.out.below ((hbw9.trans (b10.mono hz90)).mono hK)) ok (by have := hbw9.size; have := b10.size; omega) h10 (by omega))
            obtain ⟨sn, hsn⟩ : ∃ sn, seesT s uu = sn := ⟨_, rfl⟩
            rw [hsn] at HSEE hh1
            have HU1 := Lib.hid hul1
            cases sn
            · have HH1 : Hid (hh = (d : Int)) := Lib.hid hh1
              clear hu hh1 hul1 hsn
              go_wp2_with (first
                | (go_at_call 32; refine HWI.out.mono ?_; rintro e w10 ⟨A8, c8, rfl, o10, b10⟩
                   have hr10 := o10.reads)
                | (go_at_call 8; refine (HSEE.out A8 c8 w10 b10 hr10).mono ?_; rintro e w11 ⟨rfl, b11⟩
                   have bb11 := b10.trans (b11.mono b10.size)
                   have hB11 := hB9.below bb11 hHZ
                   have z0 : w11.cell? ⟨g9, 0, none⟩ = some (.int .i64 (d : Int)) := hB11.cell 0))
              go_meet
              rw [HU1.out, HH1.out]
              exact ⟨A8, c8, rfl, rfl, hB11, (o10.below b11 (Nat.le_refl _)).base_le (by omega), hP9.below bb11 (Nat.le_refl _), hO59.below bb11 (Nat.le_refl _), hbw9.trans (bb11.mono hz90), by have := bb11.size; omega⟩
            · have HH1 : Hid (hh = -1) := Lib.hid hh1
              clear hu hh1 hul1 hsn
              go_wp2_with (first
                | (go_at_call 32; refine HWI.out.mono ?_; rintro e w10 ⟨A8, c8, rfl, o10, b10⟩
                   have hr10 := o10.reads)
                | (go_at_call 8; refine (HSEE.out A8 c8 w10 b10 hr10).mono ?_; rintro e w11 ⟨rfl, b11⟩
                   have bb11 := b10.trans (b11.mono b10.size)
                   have hB11 := hB9.below bb11 hHZ))
              go_meet
              rw [HU1.out, HH1.out]
              exact ⟨A8, c8, rfl, rfl, hB11, (o10.below b11 (Nat.le_refl _)).base_le (by omega), hP9.below bb11 (Nat.le_refl _), hO59.below bb11 (Nat.le_refl _), hbw9.trans (bb11.mono hz90), by have := bb11.size; omega⟩
        case rest =>
        clear k0 k1 k2 hRD HWI hB9 hO69 hP9 hO59 hbw9 hHZ
        obtain ⟨A7, c7, rfl, rfl, hBc, hO7, hPc, hO5c, hbc, hgc⟩ := hcut
        apply_assumption
        have k4 : wc.cell? ⟨g9, 0 + 4, none⟩ = some (.slice p.la p.t.lines.length p.lc) := hBc.cell 4
        obtain ⟨n1, hn1⟩ : ∃ n1, p.t.lines.length = n1 := ⟨_, rfl⟩
        have HN1 := Lib.hid hn1
        rw [hn1] at k4 hBc
        have hn1b : n1 ≤ 800001 := by
          have h0 : p.t ∈ partsOf text := by rw [← HPT.out]; exact List.mem_map_of_mem (List.mem_of_getElem? HPK.out)
          have h1 := frT_ok (linesB (S (repT text))) _ (Nat.le_refl _)
          rw [List.take_length] at h1
          have h2 := h1.2.2.2.2 p.t h0
          have h3 := linesB_len7 (S (repT text))
          have h4 : (S (repT text)).size ≤ 800000 := by rw [size_S]; have := repT_le text; omega
          omega
        clear hn1
        have HMX : ∀ j, Hid ((partR p (mixL (fun l => lineT s l uu) p.t.lines j)).t.lines.length = n1) := fun j => Lib.hid (by rw [← HN1.out]; exact mixL_len _ _ _)
        go_wp2_with fail
        go_loopw [52] (fun s52 wv => ∃ j : Nat, j ≤ n1 ∧ s52 = .int .i64 (j : Int) ∧ Blk wv g9 67 #[.int .i64 (d : Int), .bool p.t.div, .string p.t.label, .bool p.t.opn, .slice p.la n1 p.lc] ∧
          Own wv w3.heap.size 9 1 A7 uu.length c7 (txCells uu) ∧ Parts wv w2.heap.size (some ⟨q, 0, none⟩) m c3 (cur.set k (partR p (mixL (fun l => lineT s l uu) p.t.lines j))) ∧ Own wv w3.heap.size 67 5 A5 out.length c5 (partCells out) ∧ Below w.heap.size w wv ∧ g9 < wv.heap.size)
          (fun s52 _ => n1 - (intOf s52).toNat)
        case atStart =>
          refine ⟨0, Nat.zero_le _, rfl, hBc, hO7, ?_, hO5c, hbc, hgc⟩
          have e1 : partR p (mixL (fun l => lineT s l uu) p.t.lines 0) = p := by simp [partR, mixL]
          have e2 : cur.set k p = cur := by
            apply List.ext_getElem?
            intro i
            rw [List.getElem?_set]
            split
            · rename_i h
              subst h
              rw [HP'.out]
              have := (List.getElem?_eq_some_iff.1 HP'.out).1
              simp [this]
            · rfl
          rw [e1, e2]
          exact hPc
        case round =>
          clear hBc hO7 hPc hO5c hbc hgc k4
          obtain ⟨j, hj, rfl, hBv, hO7, hPv, hO5v, hbv, hgv⟩ := hrel
          by_cases hlt2 : j < n1
          · obtain ⟨l, hl0⟩ : ∃ l, p.t.lines[j]? = some l := ⟨_, List.getElem?_eq_getElem (by have := HN1.out; omega)⟩
            have hkl : k < cur.length := by have := HCL.out; omega
            have hget : (cur.set k (partR p (mixL (fun l => lineT s l uu) p.t.lines j)))[k]? = some (partR p (mixL (fun l => lineT s l uu) p.t.lines j)) := by
              rw [List.getElem?_set, if_pos rfl, if_pos hkl]
            have hgl2 := mixL_get (fun l => lineT s l uu) hl0
            obtain ⟨gl, hla, hgl1, hgl3, hcl, hfr, _⟩ := hPv.reline hget (j := j) (l := l) hgl2 (lineT s l uu)
            have hla2 : p.la = some ⟨gl, 0, none⟩ := hla
            have hg3 : gl < w3.heap.size := HL3.out p (List.mem_of_getElem? HPK.out) _ hla2
            have hlsz : l.size ≤ 1048576 := by have := HPO.out.2.2 l (List.mem_of_getElem? hl0); omega
            have HLINE := Lib.hid (fun (W : World) (bW : Below wr.heap.size wr W) (zW : W.heap.size = wr.heap.size) (rW : Reads W W.heap.size 1 A7 uu.length (txCells uu)) =>
              line_any g K s l A7 uu.length c7 uu W ((HGL.out.below hbv).below bW) (HS.out.below ((hbv.trans (bW.mono hbv.size)).mono hK)) ok (by have := hbv.size; omega) rW (by omega) hlsz)
            obtain ⟨V2, hV2⟩ : ∃ V2, lineT s l uu = V2 := ⟨_, rfl⟩
            rw [hV2] at HLINE
            have HV2 := Lib.hid hV2
            have k4 : wr.cell? ⟨g9, 0 + 4, none⟩ = some (.slice p.la n1 p.lc) := hBv.cell 4
            rw [hla2] at k4 hBv
            rw [hla2]
            have HGET := Lib.hid hget
            have HJL : Hid (j + 1 ≤ n1) := Lib.hid hlt2
            have HL0 := Lib.hid hl0
            have HGL2 := Lib.hid hgl2
            have HLA := Lib.hid hla2
            have hO7r := hO7.reads
            clear hV2 hget hl0 hgl2 hla hla2 hfr
            go_upto_region 19 with fail
            go_region_held3 (fun w' => w'.cell? ⟨g9, 0 + 4, none⟩ = some (.slice (some ⟨gl, 0, none⟩) n1 p.lc)) ((first | go_keep | assumption))
              ((go_at_call 11; refine (HLINE.out _ (by first | exact Below.refl _ _ | exact below_drewN' (Below.refl _ _) 1) (by rfl) (by first | exact hO7r | exact hO7r.drew)).mono ?_; rintro e w5 ⟨rfl, b5⟩; have b6 := below_of_drew b5; have z0 := (b6.cell (p := ⟨g9, 0 + 4, none⟩) hgv).trans k4; have P5 := hPv.below b6 (Nat.le_refl _); obtain ⟨gm, hma, _, _, z2, z3, P6⟩ := P5.reline HGET.out (j := j) (l := l) HGL2.out V2; have hgm : gm = gl := (by have h1 : p.la = some ⟨gm, 0, none⟩ := hma; rw [HLA.out] at h1; injection h1 with h1; injection h1 with h1; exact h1.symm); subst hgm; have B5 := hBv.below b6 hgv; have z4 : (w5.setCell ⟨gm, j, none⟩ (.string V2)).cell? ⟨g9, 0 + 4, none⟩ = some (.slice (some ⟨gm, 0, none⟩) n1 p.lc) := (B5.far (p := ⟨gm, j, none⟩) (by show g9 ≠ gm; omega) _).cell 4))
            have hset : (cur.set k (partR p (mixL (fun l => lineT s l uu) p.t.lines j))).set k ⟨{ (partR p (mixL (fun l => lineT s l uu) p.t.lines j)).t with lines := (partR p (mixL (fun l => lineT s l uu) p.t.lines j)).t.lines.set j V2 }, (partR p (mixL (fun l => lineT s l uu) p.t.lines j)).la, (partR p (mixL (fun l => lineT s l uu) p.t.lines j)).lc⟩ = cur.set k (partR p (mixL (fun l => lineT s l uu) p.t.lines (j + 1))) := by
              rw [List.set_set, ← mixL_set (fun l => lineT s l uu) HL0.out]
              rw [← HV2.out]
              rfl
            rw [hset] at P6
            have hs3 : ∀ (C : Option Addr), (∀ a, C = some a → w3.heap.size ≤ a.block) → Sep C (some ⟨gm, 0, none⟩) := fun C hC a b ha hb => by
              have := hC a ha
              injection hb with hb
              rw [← hb]
              show a.block ≠ gm
              omega
            have hO76 := (hO7.below b6 (Nat.le_refl _)).only (only_setCell w5 gm j (.string V2)) (hs3 A7 fun a ha => (hO7.lt ha).1)
            have hO56 := (hO5v.below b6 (Nat.le_refl _)).only (only_setCell w5 gm j (.string V2)) (hs3 A5 fun a ha => (hO5v.lt ha).1)
            have B6 := B5.far (p := ⟨gm, j, none⟩) (show g9 ≠ gm by omega) (.string V2)
            have hww2 := bb2.size
            have hb6 := (hbv.trans (b6.mono hbv.size)).setCell (p := ⟨gm, j, none⟩) (show w.heap.size ≤ gm by omega) (.string V2)
            have hj1 : j + 1 ≤ n1 := HJL.out
            have hz6 : g9 < (w5.setCell ⟨gm, j, none⟩ (.string V2)).heap.size := by have := b6.size; simp [World.setCell]; omega
            go_wp2_with fail
            go_roundw
            case rel => exact ⟨j + 1, hj1, by go_num, B6, hO76, P6, hO56, hb6, hz6⟩
            case measure => simp [intOf]; omega
          · have hjn : j = n1 := by omega
            subst hjn
            have hml : mixL (fun l => lineT s l uu) p.t.lines j = p.t.lines.map fun l => lineT s l uu := by
              rw [← HN1.out]; exact mixL_all _ _
            rw [hml] at hPv
            obtain ⟨pn, hpn⟩ : ∃ pn, partR p (p.t.lines.map fun l => lineT s l uu) = pn := ⟨_, rfl⟩
            rw [hpn] at hPv
            have HPN : Hid (pn.t = veilP s uu p.t ∧ pn.cells = [.int .i64 (d : Int), .bool p.t.div, .string p.t.label, .bool p.t.opn, .slice p.la j p.lc]) := Lib.hid (by
              rw [← hpn]
              refine ⟨rfl, ?_⟩
              simp only [partR, PartR.cells, List.length_map]
              rw [HN1.out, hd])
            have HHD := Lib.hid hd
            have c0 : wr.cell? ⟨g9, 0, none⟩ = some (.int .i64 (d : Int)) := hBv.cell 0
            have c1 : wr.cell? ⟨g9, 0 + 1, none⟩ = some (.bool p.t.div) := hBv.cell 1
            have c2 : wr.cell? ⟨g9, 0 + 2, none⟩ = some (.string p.t.label) := hBv.cell 2
            have c3 : wr.cell? ⟨g9, 0 + 3, none⟩ = some (.bool p.t.opn) := hBv.cell 3
            have c4 : wr.cell? ⟨g9, 0 + 4, none⟩ = some (.slice p.la j p.lc) := hBv.cell 4
            have hzv := hbv.size
            have hq3 := HQ3.out _ rfl
            have h3v : w3.heap.size ≤ wr.heap.size := by omega
            have hkl : k < cur.length := by have := HCL.out; omega
            have hbb2 := bb2.size
            have hb3 := b3.size
            clear hml hpn hd
            go_wp2_with (at_builtin; refine wpList_app1 Tryz.elParts rfl (.tmp 66) (.tmp 68) rfl rfl (by exact hO5v.alloc _) rfl (Blk.new' _ _ _ _ (by simp)) rfl (by simp [Value.oneCell']) (by simp only [maxLen]; omega) (by omega) (by simp; omega) ?_
                         intro A8 c8 w8 hr8 ho8 hm8)
            have hP8 : Parts w8 w2.heap.size (some ⟨q, 0, none⟩) m _ (cur.set k pn) := ⟨(hPv.1.alloc _).only ho8 (fun a b ha hb => by
                injection ha with ha
                have := (hO5v.lt hb).1
                rw [← ha]; show q ≠ b.block
                simp only at hq3
                omega), (hPv.2.alloc _).only ho8 (fun p hp => (hPv.2.1 p hp).sep_ne hO5v (by decide))⟩
            have hO78 := (hO7.alloc (.cells #[.int .i64 (d : Int), .bool p.t.div, .string p.t.label, .bool p.t.opn, .slice p.la j p.lc] 67)).only ho8 (hO7.sep_ne hO5v (by decide))
            have hb8 : Below w3.heap.size wr w8 := ho8.of_alloc.below (fun a ha => (hO5v.lt ha).1) h3v
            have hz8 := hb8.size
            go_roundw
            case rel =>
              refine ⟨k + 1, cur.set k pn, out ++ [pn], A8, c8, A7, c7, ⟨st.out ++ [veilP s uu p.t], uu, hh⟩, by omega, by go_num, HNX.out.symm, by simp, rfl, rfl, ?_, ?_, ?_, ?_, ?_, hP8, ?_, hO78, hbv.trans (hb8.mono (by omega)), by omega⟩
              · rw [List.map_append, hou, List.map_cons, List.map_nil, HPN.out.1]
              · intro x hx
                have htk : (cur.set k pn).take (k + 1) = cur.take k ++ [pn] := by
                  rw [List.take_add_one, List.getElem?_set, if_pos rfl, if_pos hkl, List.take_set_of_le (Nat.le_refl _)]; rfl
                rw [htk]
                rcases List.mem_append.1 hx with h | h
                · exact List.mem_append_left _ (hin x h)
                · exact List.mem_append_right _ h
              · rw [List.length_set]; exact HCL.out
              · rw [List.drop_set_of_lt (by omega)]
                have := congrArg (fun l => l.drop 1) HDR.out
                simpa [List.drop_drop] using this
              · rw [List.length_append, List.length_singleton]; omega
              · have hr9 := hr8
                rw [partCells_app]
                have : partCells [pn] = [.int .i64 (d : Int), .bool p.t.div, .string p.t.label, .bool p.t.opn, .slice p.la j p.lc] := by
                  rw [← HPN.out.2]; simp [partCells]
                rw [this, List.length_append, List.length_singleton]
                exact hr9
            case measure => simp [intOf]; omega
      · obtain ⟨x1, x2⟩ : 0 ≤ st.hid ∧ st.hid < p.t.depth := by
          unfold skipT at hsk
          simpa using hsk
        have HSK := Lib.hid hsk
        clear hsk
        have HNX : Hid (veFold s ((ps.map (·.t)).take (k + 1)) = st) := Lib.hid (by rw [HSTEP.out, ← HST.out]; unfold veStep; rw [HSK.out]; rfl)
        have HDR2 : Hid (cur.drop (k + 1) = ps.drop (k + 1)) := Lib.hid (by
          have := congrArg (fun l => l.drop 1) HDR.out
          simpa [List.drop_drop] using this)
        go_wp2_with fail
        go_roundw
        case rel => exact ⟨k + 1, cur, out, A5, c5, A6, c6, st, by omega, by go_num, HNX.out.symm, rfl, rfl, rfl, hou, fun p hp => List.take_subset_take_left _ (Nat.le_succ k) (hin p hp), HCL.out, HDR2.out, by omega, hP.alloc _, hO5.alloc _, hO6.alloc _, hbw.alloc hbw.size _, by simp; omega⟩
        case measure => simp [intOf]; omega
    · have hkm : k = m := by omega
      subst hkm
      obtain ⟨q1, q2, q3, q4⟩ := veil_bounds s text hl
      have hfull : (ps.map (·.t)).take k = partsOf text := by
        rw [HPT.out, List.take_of_length_le]
        rw [← HPT.out, List.length_map, HM.out]
        exact Nat.le_refl _
      rw [hfull] at hst
      rw [← hst, ← hou] at q2 q3 q4
      have HVV : Hid (S (joinT ((write6 (out.map (·.t))).map L)) = V) := Lib.hid (by rw [← HV.out, hou, hst]; rfl)
      have hmk : k ≤ 800001 := by have := HM.out; have h2 := congrArg List.length HPT.out; rw [List.length_map] at h2; omega
      have HW := Lib.hid (write6_any A5 out.length c5 wr.heap.size out wr ⟨hO5.reads, fun p hp => (hP.2.1 p (List.mem_of_mem_take (hin p hp))).reads⟩ (by omega) (Nat.le_refl _)
        (fun p hp => by
          have h1 := q3 p.t (List.mem_map_of_mem hp)
          have h2 : ∀ l : List PartT, p.t ∈ l → p.t.lines.length ≤ lineN l := fun l => by
            induction l with
            | nil => intro h; cases h
            | cons x r ih =>
              intro h
              simp only [lineN, List.map_cons, List.sum_cons] at ih ⊢
              rcases List.mem_cons.1 h with h | h
              · rw [h]; omega
              · have := ih h; omega
          have h3 : p.t.lines.length ≤ lineN (out.map (·.t)) := h2 _ (List.mem_map_of_mem hp)
          exact ⟨⟨by have := h1.1; omega, fun x hx => by have := h1.2 x hx; omega⟩, by omega⟩) (by omega))
      have HQ := Lib.hid q4
      clear q1 q2 q3 q4 hfull hst hou hin hdr hcl
      generalize write6 (out.map (·.t)) = W6 at *
      generalize right6 (out.map (·.t)) = R6 at *
      go_wp2_with (first
        | (go_at_call 33; refine HW.out.mono ?_; rintro e w8 ⟨A8, c8, rfl, o8, b8⟩)
        | (go_at_call 34; refine (join_any A8 _ c8 w8.heap.size _ w8 o8.reads (Nat.le_refl _) HQ.out).mono ?_; rintro e w9 ⟨rfl, b9⟩))
      go_ret
      rw [HVV.out]
      exact ⟨rfl, (hbw.trans (b8.mono hbw.size)).trans (b9.mono (hbw.trans (b8.mono hbw.size)).size)⟩
end Go.Proofs.YtgdnphmannbpgaaGreatDoor
