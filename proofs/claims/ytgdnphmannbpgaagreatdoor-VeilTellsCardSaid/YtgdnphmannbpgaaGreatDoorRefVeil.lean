/-
  (*bowdlerref1.Seer).Veil.
-/
import Derived.Test.YtgdnphmannbpgaaGreatDoorGO
import Derived.Test.YtgdnphmannbpgaaGreatDoorGL
import Derived.Test.YtgdnphmannbpgaaGreatDoorGQ
import Derived.Test.YtgdnphmannbpgaaGreatDoorVeilVeil
import Derived.Test.YtgdnphmannbpgaaGreatDoorGP
namespace Go.Proofs.YtgdnphmannbpgaaGreatDoor
open Go.RowKit
set_option linter.unusedVariables false

/-- how large what is kept may be -/
theorem veil_small (s : SeerT) (text : ByteArray) (h : text.size ≤ 20000) :
    (partsOf text).length ≤ 80001 ∧ (lines6 (veFold s (partsOf text)).out).length ≤ 240003 ∧ (joinT ((lines6 (veFold s (partsOf text)).out).map L)).length ≤ 140737488355328 := by
  have h1 : (S (repT text)).size ≤ 80000 := by rw [size_S]; have := repT_le text; omega
  have h2 := linesB_len7 (S (repT text))
  have h3 : ∀ p ∈ partsOf text, SzOk 80000 p := frT_sz 80000 _ (fun x hx => by have := linesB_mem7 _ x hx; omega)
  have hd := depOk_frT (linesB (S (repT text)))
  have h4 := lineN3_le (partsOf text) hd.each
  have h5 := outN_ge7 (partsOf text) hd.each
  have h6 : outN (partsOf text) = (linesB (S (repT text))).length := hd.count
  have h7 := veFold_lineN s (partsOf text)
  have h8 := veFold_sz s 80000 _ h3
  have h9 := lines6_len7 (veFold s (partsOf text)).out
  refine ⟨by omega, by omega, ?_⟩
  have := join_le7 80009 _ (lines6_size7 h8)
  have h10 : (lines6 (veFold s (partsOf text)).out).length * (80009 + 1) ≤ 240003 * (80009 + 1) := Nat.mul_le_mul_right _ (by omega)
  omega
theorem blk5 {W : World} {g t : Nat} {a b c d e : Value} (h : Blk W g t #[a, b, c, d, e]) :
    W.cell? ⟨g, 0, none⟩ = some a ∧ W.cell? ⟨g, 0 + 1, none⟩ = some b ∧ W.cell? ⟨g, 0 + 2, none⟩ = some c ∧ W.cell? ⟨g, 0 + 3, none⟩ = some d ∧ W.cell? ⟨g, 0 + 4, none⟩ = some e := ⟨h.cell 0, h.cell 1, h.cell 2, h.cell 3, h.cell 4⟩
/-- the rows of the lines of parts -/
def Rows (w : World) (base : Nat) (out : List PartR) : Prop := ∀ q ∈ out, Own w base 9 1 q.la q.t.lines.length q.lc (txCells q.t.lines)
section
variable {w w' wq : World} {base K : Nat} {B : Option Addr} {out : List PartR}
theorem Rows.nil : Rows w base [] := fun q hq => by cases hq
theorem Rows.below (h : Rows w base out) (hb : Below K w w') (hK : w.heap.size ≤ K) : Rows w' base out := fun q hq => (h q hq).below hb hK
theorem Rows.alloc (h : Rows w base out) (o : Obj) : Rows (w.alloc o) base out := fun q hq => (h q hq).alloc o
theorem Rows.far (h : Rows w base out) (h0 : Rows wq base out) (ho : Only w w' B) (hB : ∀ b, B = some b → wq.heap.size ≤ b.block) : Rows w' base out := fun q hq =>
  (h q hq).only ho (fun a b ha hb => by have := ((h0 q hq).lt ha).2; have := hB b hb; omega)
theorem Rows.ne {base' e size n c : Nat} {xs : List Value} (h : Rows w base out) (hO : Own w base' e size B n c xs) (hne : 9 ≠ e) (ho : Only w w' B) : Rows w' base out := fun q hq =>
  (h q hq).only ho ((h q hq).sep_ne hO hne)
theorem Rows.push (h : Rows w base out) {q : PartR} (hq : Own w base 9 1 q.la q.t.lines.length q.lc (txCells q.t.lines)) : Rows w base (out ++ [q]) := fun x hx => by
  rcases List.mem_append.1 hx with hx | hx
  · exact h x hx
  · rw [List.mem_singleton.1 hx]; exact hq
end

set_option maxHeartbeats 8000000 in
set_option maxRecDepth 100000 in
theorem refVeil_any (g K : Nat) (s : SeerT) (text : ByteArray) (w : World) (hT : Tabs w) (h : RSeerR w K g s) (ok : SeerOk s) (ed : EdgeOk s.lat) (hK : K ≤ w.heap.size) (hl : text.size ≤ 20000) :
    Calls Tryz.prog 17 #[.pointer (some ⟨g, 0, none⟩), .string text] w fun e w' => e = .returned (.string (veilT s text)) ∧ Below w.heap.size w w' := by
  obtain ⟨V, hV⟩ : ∃ V, veilT s text = V := ⟨_, rfl⟩
  have hV2 : S (joinT ((lines6 (veFold s (partsOf text)).out).map L)) = V := by
    rw [← hV, veilT_eq]
    unfold docP
    rw [docP_write, veFold_eq]
  rw [hV]
  have HV := Lib.hid hV2
  clear hV hV2
  have HS := Lib.hid h
  clear h
  have hrsz : (S (repT text)).size ≤ 80000 := by rw [size_S]; have := repT_le text; omega
  go_enter Tryz.func17, Tryz.ntmps17
  go_wp2_with (first
    | (go_at_call 48; refine (refText_any text w hT (by omega)).mono ?_; rintro e w1 ⟨rfl, b1⟩)
    | (go_at_call 47; refine (refSplit_any _ w1 (by omega)).mono ?_; rintro e w2 ⟨A2, n2, c2, rfl, o2, b2⟩
       have bb2 := b1.trans (b2.mono b1.size)
       have hn2 : n2 ≤ 80001 := by have h1 := o2.len; have h2 := linesB_len7 (S (repT text)); simp at h1; omega)
    | (go_at_call 46; refine (refParts_any A2 n2 c2 w2.heap.size _ w2 o2.reads (Nat.le_refl _) (by omega) (fun x hx => by have := linesB_mem7 _ x hx; omega)).mono ?_; rintro e w3 ⟨A3, m, c3, ps, rfl, P3, hps, b3⟩
       have bb3 := bb2.trans (b3.mono bb2.size)))
  have hpt : ps.map (·.t) = partsOf text := hps
  obtain ⟨ts, hts⟩ : ∃ ts, ps.map (·.t) = ts := ⟨_, rfl⟩
  rw [hts] at hpt
  have HTS := Lib.hid hts
  have HPT := Lib.hid hpt
  clear hpt hps hts
  have hm := P3.len
  have HM := Lib.hid hm
  have hmm : m ≤ 80001 := by
    have h0 := (veil_small s text hl).1
    rw [← HPT.out, ← HTS.out, List.length_map, hm] at h0
    exact h0
  have hRP : Rows w3 w.heap.size ps := fun q hq => (P3.2.1 q hq).base_le bb2.size
  have HRP := Lib.hid hRP
  have hRD3 := P3.reads
  have z3 := bb3.size
  clear hm hRP P3 o2 b1 b2 b3
  go_loopw [6, 7, 8, 9] (fun s6 s7 s8 s9 wr => ∃ (k : Nat) (out : List PartR) (A6 : Option Addr) (c6 : Nat) (A7 : Option Addr) (c7 : Nat) (st : VeS), k ≤ m ∧ s9 = .int .i64 (k : Int) ∧ Hid (st = veFold s (ts.take k)) ∧
    s6 = .slice A6 out.length c6 ∧ s7 = .slice A7 st.under.length c7 ∧ s8 = .int .i64 st.hid ∧ Hid (out.map (·.t) = st.out) ∧ out.length ≤ k ∧
    Own wr w3.heap.size 67 5 A6 out.length c6 (partCells out) ∧ Rows wr w.heap.size out ∧ Own wr w3.heap.size 9 1 A7 st.under.length c7 (txCells st.under) ∧ Below w3.heap.size w3 wr) (fun _ _ _ s9 _ => m - (intOf s9).toNat)
  case atStart => exact ⟨0, [], none, 0, none, 0, ⟨[], [], -1⟩, Nat.zero_le _, rfl, Lib.hid rfl, rfl, rfl, rfl, Lib.hid rfl, Nat.le_refl _, Own.nil _ _ _ _, Rows.nil, Own.nil _ _ _ _, Below.refl _ _⟩
  case round =>
    obtain ⟨k, out, A6, c6, A7, c7, st, hk, rfl, HST, rfl, rfl, rfl, HOU, hol, hO6, hRo, hO7, hb⟩ := hrel
    have hzr := hb.size
    by_cases hlt : k < m
    · obtain ⟨p, hp⟩ : ∃ p, ps[k]? = some p := ⟨_, List.getElem?_eq_getElem (by rw [HM.out]; exact hlt)⟩
      have hpt : ts[k]? = some p.t := by rw [← HTS.out, List.getElem?_map, hp]; rfl
      have HSTEP := Lib.hid (veFold_take s hpt)
      have hroom : skipT st p.t = false → 0 ≤ p.t.depth ∧ p.t.depth.toNat ≤ st.under.length := fun hs => by
        have h1 := HPT.out
        have h2 := HST.out
        have h3 := hpt
        unfold partsOf at h1
        rw [h1] at h2 h3
        rw [h2] at hs ⊢
        exact veRoom s _ h3 hs
      obtain ⟨ad, hA3, _, e0, e1, e2, e3, e4⟩ := (hRD3.1.below hb).part hp hlt
      subst hA3
      have hpm : p ∈ ps := List.mem_of_getElem? hp
      have hp0 : p.t ∈ partsOf text := by rw [← HPT.out, ← HTS.out]; exact List.mem_map_of_mem hpm
      have hPO : PartOk p.t ∧ SzOk 80000 p.t := by
        refine ⟨(depOk_frT (linesB (S (repT text)))).each p.t hp0, ?_⟩
        exact frT_sz 80000 _ (fun x hx => by have := linesB_mem7 _ x hx; omega) p.t hp0
      have HPO := Lib.hid hPO
      have HPM := Lib.hid hpm
      have hn1b : p.t.lines.length ≤ 80001 := by
        have h1 := frT_ok (linesB (S (repT text))) _ (Nat.le_refl _)
        rw [List.take_length] at h1
        have h2 := h1.2.2.2.2 p.t hp0
        have h3 := linesB_len7 (S (repT text))
        omega
      have hdk : p.t.depth ≤ k := by
        have h1 := HPT.out
        unfold partsOf at h1
        have h2 := hpt
        rw [h1] at h2
        exact depth_le7 _ k p.t h2
      clear hp hpt hpm hp0 hPO
      cases hsk : skipT st p.t
      · have HSK := Lib.hid hsk
        obtain ⟨r0, r1⟩ := hroom hsk
        obtain ⟨d, hd⟩ := Int.eq_ofNat_of_zero_le r0
        have c7le := hO7.cap
        have x9 : 0 ≤ st.hid → ¬ st.hid < p.t.depth := fun h1 h2 => by
          unfold skipT at hsk
          simp [h1] at hsk
          omega
        clear hsk hroom
        obtain ⟨uu, huu⟩ : ∃ uu, openU st p.t = uu := ⟨_, rfl⟩
        obtain ⟨hh, hhh⟩ : ∃ hh, (if p.t.div && !seesT s uu then p.t.depth else -1) = hh := ⟨_, rfl⟩
        have HNX : Hid (veFold s (ts.take (k + 1)) = ⟨st.out ++ [veilP s uu p.t], uu, hh⟩) := Lib.hid (by
          rw [HSTEP.out, ← HST.out]; unfold veStep; rw [HSK.out, huu, hhh]; rfl)
        have r2 : d ≤ st.under.length := by rw [hd] at r1; simpa using r1
        have hdkn : d ≤ 80001 := by omega
        have huT : p.t.div = true → uu = st.under.take d ++ [p.t.label] := fun h1 => by
          rw [← huu]; unfold openU; rw [h1, hd]; rfl
        have huF : p.t.div = false → uu = st.under.take d := fun h1 => by
          rw [← huu]; unfold openU; rw [h1, hd]; simp
        have hhT : p.t.div = true → hh = if seesT s uu then -1 else (d : Int) := fun h1 => by
          rw [← hhh, h1, hd]; cases seesT s uu <;> rfl
        have hhF : p.t.div = false → hh = -1 := fun h1 => by rw [← hhh, h1]; rfl
        have htl : (st.under.take d).length = d := by rw [List.length_take]; omega
        have HHD := Lib.hid hd
        rw [hd] at e0 x9
        have HTL := Lib.hid htl
        have htl' := htl
        clear huu hhh r1 r0 hdk htl hd
        go_upto_region 9 with fail
        go_cut [34] (fun s34 wx => s34 = .bool false ∧ wx = wr.alloc (.cells #[.int .i64 (d : Int), .bool p.t.div, .string p.t.label, .bool p.t.opn, .slice p.la p.t.lines.length p.lc] 67))
        case first =>
          rcases Int.lt_or_le st.hid 0 with hn | hn
          · go_wp2_with fail
            go_meet
            exact ⟨rfl, rfl⟩
          · have x10 := x9 hn
            go_wp2_with fail
            go_meet
            exact ⟨rfl, rfl⟩
        case rest =>
        obtain ⟨rfl, hwW⟩ := hcut
        rw [hwW]
        clear hwW x9
        apply_assumption
        have hB9 := Blk.new wr 67 #[.int .i64 (d : Int), .bool p.t.div, .string p.t.label, .bool p.t.opn, .slice p.la p.t.lines.length p.lc]
        have hO69 := hO6.alloc (.cells #[.int .i64 (d : Int), .bool p.t.div, .string p.t.label, .bool p.t.opn, .slice p.la p.t.lines.length p.lc] 67)
        have hR9 := hRo.alloc (.cells #[.int .i64 (d : Int), .bool p.t.div, .string p.t.label, .bool p.t.opn, .slice p.la p.t.lines.length p.lc] 67)
        have hO79 := (hO7.take r2).alloc (.cells #[.int .i64 (d : Int), .bool p.t.div, .string p.t.label, .bool p.t.opn, .slice p.la p.t.lines.length p.lc] 67)
        have hb9 := hb.alloc hzr (.cells #[.int .i64 (d : Int), .bool p.t.div, .string p.t.label, .bool p.t.opn, .slice p.la p.t.lines.length p.lc] 67)
        have htk : (txCells st.under).take (d * 1) = txCells (st.under.take d) := by simp [txCells, List.map_take]
        rw [htk] at hO79
        have hz9 : (wr.alloc (.cells #[.int .i64 (d : Int), .bool p.t.div, .string p.t.label, .bool p.t.opn, .slice p.la p.t.lines.length p.lc] 67)).heap.size = wr.heap.size + 1 := by simp
        have hA6 : ∀ a, A6 = some a → a.block < wr.heap.size := fun a ha => (hO6.lt ha).2
        obtain ⟨g9, hg9⟩ : ∃ g9, wr.heap.size = g9 := ⟨_, rfl⟩
        rw [hg9] at hB9 hz9 hzr hA6
        have HA6 := Lib.hid hA6
        clear hA6
        rw [hg9]
        clear hg9
        generalize wr.alloc (.cells #[.int .i64 (d : Int), .bool p.t.div, .string p.t.label, .bool p.t.opn, .slice p.la p.t.lines.length p.lc] 67) = w9 at *
        have hHZ : g9 < w9.heap.size := by omega
        have h39 : w3.heap.size ≤ w9.heap.size := by omega
        have hw9 : w.heap.size ≤ w9.heap.size := by omega
        clear htk hO6 hRo hO7 hb e0 e1 e2 e3 e4
        obtain ⟨k0, k1, k2, k3, k4⟩ := blk5 hB9
        have hRD := hO79.reads
        have y1 : (d : Int) ≤ (c7 : Int) := by omega
        have hbw9 : Below w.heap.size w w9 := bb3.trans (hb9.mono z3)
        have hrp9 := HRP.out.below hb9 (Nat.le_refl _)
        cases hdv : p.t.div
        · -- a run
          have hu := huF hdv
          have hh1 := hhF hdv
          rw [hdv] at k1 hB9
          have HU := Lib.hid hu
          have HH1 := Lib.hid hh1
          have HDV := Lib.hid hdv
          clear hu hh1 huT huF hhT hhF hdv
          go_upto_region 17 with (at_builtin; refine wpList_app Tryz.elTexts rfl (.const (.slice none 0 0)) (.tmp 38) rfl rfl (Own.nil _ w9.heap.size _ _) rfl hRD (tx_one _) (by simp only [maxLen]; omega) (by omega) (Nat.le_refl _) ?_
                                  intro A8 c8 w10 hO8 ho8 hm8
                                  rw [Nat.zero_add, List.nil_append] at hO8
                                  have b8 := ho8.below (K := w9.heap.size) (fun a ha => by cases ha) (Nat.le_refl _)
                                  have hB10 := hB9.below b8 hHZ
                                  obtain ⟨x0, x1, x2, x3, x4⟩ := blk5 hB10)
          rw [← HU.out] at hO8
          have hz8 := b8.size
          have hO610 := hO69.below b8 (Nat.le_refl _)
          have hR10 := hR9.below b8 (Nat.le_refl _)
          have hrp10 := hrp9.below b8 (Nat.le_refl _)
          have hb10 := hb9.trans (b8.mono h39)
          have hbw10 := hbw9.trans (b8.mono hw9)
          clear hB9 hO69 hR9 hO79 hRD hb9 k0 k1 k2 k3 k4 x0 x1 x2 x3 x4 hrp9
          obtain ⟨n1, hn1⟩ : ∃ n1, p.t.lines.length = n1 := ⟨_, rfl⟩
          have HN1 := Lib.hid hn1
          rw [hn1] at hB10 hn1b
          clear hn1
          obtain ⟨f, hf⟩ : ∃ f : ByteArray → ByteArray, (fun l => lineT s l uu) = f := ⟨_, rfl⟩
          have HF : Hid (∀ l, lineT s l uu = f l) := Lib.hid (fun l => by rw [← hf])
          have HFE := Lib.hid hf
          clear hf
          have hg10 : g9 < w10.heap.size := by omega
          have hul : d ≤ 1000000 := by omega
          go_wp2_with fail
          go_loopw [11, 12] (fun s11 s12 wv => ∃ (j : Nat) (A11 : Option Addr) (c11 : Nat), j ≤ n1 ∧ s12 = .int .i64 (j : Int) ∧ s11 = .slice A11 j c11 ∧ Own wv w10.heap.size 9 1 A11 j c11 (txCells ((p.t.lines.map f).take j)) ∧ Below w10.heap.size w10 wv) (fun _ s12 _ => n1 - (intOf s12).toNat)
          case atStart => exact ⟨0, none, 0, Nat.zero_le _, rfl, rfl, Own.nil _ _ _ _, Below.refl _ _⟩
          case round =>
            obtain ⟨j, A11, c11, hj, rfl, rfl, hO11, hbv⟩ := hrel
            have hzv := hbv.size
            have hB11 := hB10.below hbv hg10
            obtain ⟨x0, x1, x2, x3, x4⟩ := blk5 hB11
            by_cases hltj : j < n1
            · obtain ⟨l, hl0⟩ : ∃ l, p.t.lines[j]? = some l := ⟨_, List.getElem?_eq_getElem (by have := HN1.out; omega)⟩
              obtain ⟨al, v, hla, _, hv0, hcl⟩ := ((hrp10.below hbv (Nat.le_refl _)) p HPM.out).reads.at_ (k := j) (by have := HN1.out; omega)
              have hv : v = .string l := by
                have : (txCells p.t.lines)[j]? = some (.string l) := by simp [txCells, hl0]
                rw [this] at hv0
                exact (Option.some.inj hv0).symm
              subst hv
              have HLA := Lib.hid hla
              rw [hla] at x4
              have hlsz : l.size ≤ 1048576 := by have := HPO.out.2.2 l (List.mem_of_getElem? hl0); omega
              have hlen8 : uu.length = d := by rw [HU.out]; exact HTL.out
              have HLINE := Lib.hid (refLine_any g K s l A8 d c8 uu wr (HS.out.below ((hbw10.trans (hbv.mono hbw10.size)).mono hK)) ok ed (by have := hbw10.size; omega) ((hO8.reads.below hbv).up hzv) hul hlsz)
              rw [HF.out] at HLINE
              have HTK : Hid ((p.t.lines.map f).take (j + 1) = (p.t.lines.map f).take j ++ [f l]) := Lib.hid (by
                rw [List.take_add_one, List.getElem?_map, hl0]; rfl)
              clear hl0 hla hv0 hlen8
              go_wp2_with (first
                | (go_at_call 15; refine HLINE.out.mono ?_; rintro e w5 ⟨rfl, b5⟩
                   have hO12 := hO11.below b5 (Nat.le_refl _)
                   have hz5 := b5.size)
                | (at_builtin; refine wpList_app1 Tryz.elTexts rfl (.tmp 64) (.tmp 73) rfl rfl (by exact hO12.alloc _) rfl (Blk.new' _ _ _ _ (by simp)) rfl (by simp [Value.oneCell']) (by simp only [maxLen]; omega) (by omega) (by simp; omega) ?_
                   intro A13 c13 w13 hO13 ho13 hm13))
              go_roundw
              case rel =>
                refine ⟨j + 1, A13, c13, by omega, by go_num, rfl, ?_, (hbv.trans (b5.mono hzv)).trans (ho13.of_alloc.below (fun a ha => (hO12.lt ha).1) (by omega))⟩
                rw [HTK.out]
                simpa [txCells] using hO13
              case measure => simp [intOf]; omega
            · have hjn : j = n1 := by omega
              subst hjn
              have hall : (p.t.lines.map f).take j = p.t.lines.map f := List.take_of_length_le (by rw [List.length_map, HN1.out]; exact Nat.le_refl _)
              rw [hall] at hO11
              have fz := hB11.frozen 4
              have hB12 := hB11.set_ 4 (.slice A11 j c11)
              have hB12' : Blk (wr.setCell ⟨g9, 4, none⟩ (.slice A11 j c11)) g9 67 #[.int .i64 (d : Int), .bool false, .string p.t.label, .bool p.t.opn, .slice A11 j c11] := by simpa using hB12
              have hone := only_setCell wr g9 4 (.slice A11 j c11)
              have hO612 := (hO610.below hbv (Nat.le_refl _)).only hone (fun a b ha hb => by injection hb with hb; have h1 := HA6.out a ha; rw [← hb]; show a.block ≠ g9; omega)
              have hR12 : Rows (wr.setCell ⟨g9, 4, none⟩ (.slice A11 j c11)) w.heap.size out := fun q hq => ((hR10.below hbv (Nat.le_refl _)) q hq).only hone (fun a b ha hb => by injection hb with hb; rw [← hb]; exact ((hR10.below hbv (Nat.le_refl _)) q hq).blk_ne hB11 (by decide) a ha)
              have hO812 := (hO8.below hbv (Nat.le_refl _)).only hone (fun a b ha hb => by injection hb with hb; rw [← hb]; exact (hO8.below hbv (Nat.le_refl _)).blk_ne hB11 (by decide) a ha)
              have hO1112 := hO11.only hone (fun a b ha hb => by injection hb with hb; rw [← hb]; exact hO11.blk_ne hB11 (by decide) a ha)
              have hb12 := (hb10.trans (hbv.mono hb10.size)).setCell (p := ⟨g9, 4, none⟩) hzr (.slice A11 j c11)
              have hz12 := hb12.size
              obtain ⟨v0, v1, v2, v3, v4⟩ := blk5 hB12'
              have hul2 : uu.length = d := by rw [HU.out]; exact HTL.out
              have HUL := Lib.hid hul2
              have hw10 : w.heap.size ≤ w10.heap.size := by omega
              clear hul2 hB12 hO11
              go_wp2_with (at_builtin; refine wpList_app1 Tryz.elParts rfl (.tmp 77) (.tmp 79) rfl rfl (by exact hO612.alloc _) rfl (Blk.new' _ _ _ _ (by simp)) rfl (by simp [Value.oneCell']) (by simp only [maxLen]; omega) (by omega) (by simp; have := hb12.size; simp [World.setCell] at this; omega) ?_
                           intro A14 c14 w14 hr14 ho14 hm14)
              have hR14 := (hR12.alloc (.cells #[.int .i64 (d : Int), .bool false, .string p.t.label, .bool p.t.opn, .slice A11 j c11] 67)).ne (hO612.alloc _) (by decide) ho14
              have hO814 := (hO812.alloc (.cells #[.int .i64 (d : Int), .bool false, .string p.t.label, .bool p.t.opn, .slice A11 j c11] 67)).only ho14 (hO812.sep_ne hO612 (by decide))
              have hO1114 := (hO1112.alloc (.cells #[.int .i64 (d : Int), .bool false, .string p.t.label, .bool p.t.opn, .slice A11 j c11] 67)).only ho14 (hO1112.sep_ne hO612 (by decide))
              have hlen : (p.t.lines.map f).length = j := by rw [List.length_map, HN1.out]
              go_roundw
              case rel =>
                refine ⟨k + 1, out ++ [⟨veilP s uu p.t, A11, c11⟩], A14, c14, A8, c8, ⟨st.out ++ [veilP s uu p.t], uu, hh⟩, by omega, by go_num, Lib.hid HNX.out.symm, by simp, by rw [HUL.out], by rw [HH1.out], Lib.hid ?_, ?_, ?_, ?_, ?_, hb12.trans (ho14.of_alloc.below (fun a ha => (hO612.lt ha).1) hz12)⟩
                · rw [List.map_append, HOU.out]; rfl
                · rw [List.length_append, List.length_singleton]; omega
                · have e7 : partCells [⟨veilP s uu p.t, A11, c11⟩] = [.int .i64 (d : Int), .bool false, .string p.t.label, .bool p.t.opn, .slice A11 j c11] := by
                    simp only [partCells, List.flatMap_cons, List.flatMap_nil, List.append_nil, PartR.cells, veilP]
                    rw [HHD.out, HDV.out, HFE.out, hlen]
                  rw [partCells_app, e7, List.length_append, List.length_singleton]
                  exact hr14
                · refine hR14.push ?_
                  have h5 := hO1114.base_le hw10
                  show Own w14 w.heap.size 9 1 A11 (p.t.lines.map fun l => lineT s l uu).length c11 (txCells (p.t.lines.map fun l => lineT s l uu))
                  rw [HFE.out, hlen]
                  exact h5
                · rw [HUL.out]
                  exact hO814.base_le h39
              case measure => simp [intOf]; omega
        · -- a division
          have hu := huT hdv
          have hh1 := hhT hdv
          have hlines : p.t.lines = [] := HPO.out.1.1 hdv
          rw [hdv] at k1 hB9
          have HDV := Lib.hid hdv
          have hvp : veilP s uu p.t = p.t := by
            unfold veilP
            rw [hlines]
            cases hpt : p.t
            simp only [hpt] at hlines
            rw [hlines]; rfl
          have HVP := Lib.hid hvp
          have hul1 : uu.length = d + 1 := by rw [hu, List.length_append, htl', List.length_singleton]
          have HU := Lib.hid hu
          have HUL := Lib.hid hul1
          obtain ⟨sn, hsn⟩ : ∃ sn, seesT s uu = sn := ⟨_, rfl⟩
          have HSEE := Lib.hid (fun (A8 : Option Addr) (c8 : Nat) (W : World) (bW : Below w.heap.size w W) (rW : Reads W W.heap.size 1 A8 (d + 1) (txCells uu)) =>
            refSees_at g K s A8 (d + 1) c8 uu W (HS.out.below (bW.mono hK)) ok ed (by have := bW.size; omega) rW (by omega))
          rw [hsn] at HSEE hh1
          have HH1 := Lib.hid hh1
          have st0 := trivial
          clear hu hh1 huT huF hhT hhF hdv hlines hvp hul1 hsn
          cases sn
          all_goals
            go_wp2_with (first
              | (have st1 := st0; clear st0; at_builtin; refine wpList_app Tryz.elTexts rfl (.const (.slice none 0 0)) (.tmp 38) rfl rfl (Own.nil _ w9.heap.size _ _) rfl hRD (tx_one _) (by simp only [maxLen]; omega) (by omega) (Nat.le_refl _) ?_
                 intro A8 c8 w10 hO8 ho8 hm8
                 rw [Nat.zero_add, List.nil_append] at hO8
                 have b8 := ho8.below (K := w9.heap.size) (fun a ha => by cases ha) (Nat.le_refl _)
                 have hz8 := b8.size
                 have hB10 := hB9.below b8 hHZ
                 have hO610 := hO69.below b8 (Nat.le_refl _)
                 have hR10 := hR9.below b8 (Nat.le_refl _)
                 have hrp10 := hrp9.below b8 (Nat.le_refl _)
                 have hb10 := hb9.trans (b8.mono h39)
                 obtain ⟨x0, x1, x2, x3, x4⟩ := blk5 hB10)
              | (have st2 := st1; clear st1; at_builtin; refine wpList_app1 Tryz.elParts rfl (.tmp 42) (.tmp 44) rfl rfl (by exact hO610.alloc _) rfl (Blk.new' _ _ _ _ (by simp)) rfl (by simp [Value.oneCell']) (by simp only [maxLen]; omega) (by omega) (by simp; omega) ?_
                 intro A9 c9 w11 hO9 ho9 hm9
                 have b9 := ho9.of_alloc.below (K := w3.heap.size) (fun a ha => (hO610.lt ha).1) (by omega)
                 have hz9' := ho9.of_alloc.size
                 have hB11 := (hB10.alloc (.cells #[.int .i64 (d : Int), .bool true, .string p.t.label, .bool p.t.opn, .slice p.la p.t.lines.length p.lc] 67)).only ho9 (fun a ha => by have := HA6.out a ha; omega)
                 have hO811 := (hO8.alloc (.cells #[.int .i64 (d : Int), .bool true, .string p.t.label, .bool p.t.opn, .slice p.la p.t.lines.length p.lc] 67)).only ho9 (hO8.sep_ne hO610 (by decide))
                 have hR11 := (hR10.alloc (.cells #[.int .i64 (d : Int), .bool true, .string p.t.label, .bool p.t.opn, .slice p.la p.t.lines.length p.lc] 67)).ne (hO610.alloc _) (by decide) ho9
                 have hrp11 := (hrp10.alloc (.cells #[.int .i64 (d : Int), .bool true, .string p.t.label, .bool p.t.opn, .slice p.la p.t.lines.length p.lc] 67)).ne (hO610.alloc _) (by decide) ho9
                 have hb11 := hb10.trans b9
                 obtain ⟨u0, u1, u2, u3, u4⟩ := blk5 hB11)
              | (have st3 := st2; clear st2; at_builtin; refine wpList_app1 Tryz.elTexts rfl (.tmp 46) (.tmp 49) rfl rfl (by exact hO811.alloc _) rfl (Blk.new' _ _ _ _ (by simp)) rfl (by simp [Value.oneCell']) (by simp only [maxLen]; omega) (by omega) (by simp; omega) ?_
                 intro A10 c10 w12 hO10 ho10 hm10
                 have b10 := ho10.of_alloc.below (K := w9.heap.size) (fun a ha => (hO811.lt ha).1) (by omega)
                 have hz10' := ho10.of_alloc.size
                 have hB12 := hB11.below b10 hHZ
                 have hO912 := (hO9.alloc (.cells #[.string p.t.label] 9)).only ho10 (hO9.sep_ne hO811 (by decide))
                 have hR12 := (hR11.alloc (.cells #[.string p.t.label] 9)).far hR9 ho10 (fun b hb => (hO811.lt hb).1)
                 have hrp12 := (hrp11.alloc (.cells #[.string p.t.label] 9)).far hrp9 ho10 (fun b hb => (hO811.lt hb).1)
                 have hb12 := hb11.trans (b10.mono h39)
                 have hO10' : Own w12 w9.heap.size 9 1 A10 (d + 1) c10 (txCells uu) := by rw [HU.out]; simpa [txCells] using hO10)
              | (go_at_call 14; refine (HSEE.out A10 c10 w12 (bb3.trans (hb12.mono z3)) hO10'.reads).mono ?_; rintro e w13 ⟨rfl, b13⟩
                 have hB13 := hB12.below b13 (by omega)
                 obtain ⟨t0, t1, t2, t3, t4⟩ := blk5 hB13))
            go_roundw
            case rel =>
              refine ⟨k + 1, out ++ [p], A9, c9, A10, c10, ⟨st.out ++ [veilP s uu p.t], uu, hh⟩, by omega, by go_num, Lib.hid HNX.out.symm, by simp, by rw [HUL.out], by rw [HH1.out]; rfl, Lib.hid ?_, ?_, ?_, ?_, ?_, hb12.trans (b13.mono (by omega))⟩
              · rw [List.map_append, HOU.out, HVP.out]; rfl
              · rw [List.length_append, List.length_singleton]; omega
              · have e7 : partCells [p] = [.int .i64 (d : Int), .bool true, .string p.t.label, .bool p.t.opn, .slice p.la p.t.lines.length p.lc] := by
                  simp only [partCells, List.flatMap_cons, List.flatMap_nil, List.append_nil, PartR.cells]
                  rw [HHD.out, HDV.out]
                rw [partCells_app, e7, List.length_append, List.length_singleton]
                exact hO912.below b13 (Nat.le_refl _)
              · exact (hR12.below b13 (Nat.le_refl _)).push ((hrp12.below b13 (Nat.le_refl _)) p HPM.out)
              · rw [HUL.out]
                exact (hO10'.below b13 (Nat.le_refl _)).base_le h39
            case measure => simp [intOf]; omega
      · obtain ⟨x1, x2⟩ : 0 ≤ st.hid ∧ st.hid < p.t.depth := by
          unfold skipT at hsk
          simpa using hsk
        have HSK := Lib.hid hsk
        clear hsk hroom
        have HNX : Hid (veFold s (ts.take (k + 1)) = st) := Lib.hid (by rw [HSTEP.out, ← HST.out]; unfold veStep; rw [HSK.out]; rfl)
        go_wp2_with fail
        go_roundw
        case rel => exact ⟨k + 1, out, A6, c6, A7, c7, st, by omega, by go_num, Lib.hid HNX.out.symm, rfl, rfl, rfl, HOU, by omega, hO6.alloc _, hRo.alloc _, hO7.alloc _, hb.alloc hzr _⟩
        case measure => simp [intOf]; omega
    · have hkm : k = m := by omega
      obtain ⟨q1, q2, q3⟩ := veil_small s text hl
      have hfull : ts.take k = partsOf text := by
        rw [List.take_of_length_le (by rw [← HTS.out, List.length_map, HM.out]; omega), HPT.out]
      have hst : st = veFold s (partsOf text) := by rw [HST.out, hfull]
      have hou : out.map (·.t) = (veFold s (partsOf text)).out := by rw [HOU.out, hst]
      have hrt : right6 (out.map (·.t)) = true := by
        rw [hou, veFold_eq]
        exact right_veil (seesT s) (parts_fit text) (parts_right text)
      obtain ⟨rr, hrr⟩ : ∃ rr, rtFold (some rtInit) (out.map (·.t)) = some rr := Option.isSome_iff_exists.1 hrt
      rw [← hou] at q2 q3
      have HVV : Hid (S (joinT ((lines6 (out.map (·.t))).map L)) = V) := Lib.hid (by rw [← HV.out, hou])
      have HW := Lib.hid (refWrite_any A6 out.length c6 wr.heap.size out rr wr ⟨hO6.reads, fun p hp => (hRo p hp).reads⟩ (Nat.le_refl _) hrr (by omega) (by omega))
      have HQ3 := Lib.hid q3
      have hq2 := q2
      clear q1 q2 q3 hfull hst hou hrt hrr
      generalize lines6 (out.map (·.t)) = L6 at *
      go_wp2_with (first
        | (go_at_call 50; refine HW.out.mono ?_; rintro e w8 ⟨A8, m8, c8, rfl, o8, b8⟩
           have hm8 : m8 ≤ 240003 := by have := o8.len; simp at this; omega)
        | (go_at_call 49; refine (refJoin_any A8 m8 c8 w8.heap.size _ w8 o8.reads (by omega) HQ3.out).mono ?_; rintro e w9 ⟨rfl, hw⟩; subst w9))
      go_ret
      rw [HVV.out]
      have hbw := bb3.trans (hb.mono z3)
      exact ⟨rfl, hbw.trans (b8.mono hbw.size)⟩
end Go.Proofs.YtgdnphmannbpgaaGreatDoor
