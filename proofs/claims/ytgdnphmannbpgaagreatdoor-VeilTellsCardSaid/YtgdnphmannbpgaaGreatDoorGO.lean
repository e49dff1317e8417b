/- Joined texts: RefSees, RefSLine, RefText. -/
import Derived.Test.YtgdnphmannbpgaaGreatDoorGN
import Derived.Test.YtgdnphmannbpgaaGreatDoorGW
import Derived.Test.YtgdnphmannbpgaaGreatDoorGL
import Derived.Test.YtgdnphmannbpgaaGreatDoorGM
import Derived.Test.YtgdnphmannbpgaaGreatDoorGK
import Derived.Test.YtgdnphmannbpgaaGreatDoorGE
import Derived.Test.YtgdnphmannbpgaaGreatDoorGH
/-
  The document's reader in memory; (*bowdlerref1.Seer).Sees.
-/
namespace Go.Proofs.YtgdnphmannbpgaaGreatDoor
open Go.RowKit
set_option linter.unusedVariables false

/-- the edges that the document looks for are the program's top and bottom -/
structure EdgeOk (t : LatT) : Prop where
  top : edgeF (bitAt t.up) t.n = some (topT t)
  bot : edgeF (fun x y => bitAt t.up y x) t.n = some (bottomT t)
theorem edgeF_congr {M M' : Nat → Nat → Bool} {n : Nat} (h : ∀ x y, x < n → y < n → M x y = M' x y) : edgeF M n = edgeF M' n := by
  unfold edgeF
  have hq : ∀ c, c < n → ((List.range n).all fun y => M y c) = ((List.range n).all fun y => M' y c) := fun c hc => by
    rw [Bool.eq_iff_iff, List.all_eq_true, List.all_eq_true]
    exact ⟨fun g y hy => by rw [← h y c (List.mem_range.1 hy) hc]; exact g y hy, fun g y hy => by rw [h y c (List.mem_range.1 hy) hc]; exact g y hy⟩
  have key : ∀ l : List Nat, (∀ c ∈ l, c < n) → l.find? (fun c => (List.range n).all fun y => M y c) = l.find? (fun c => (List.range n).all fun y => M' y c) := by
    intro l
    induction l with
    | nil => intro _; rfl
    | cons c l ih =>
      intro hc
      rw [List.find?_cons, List.find?_cons, hq c (hc c (by simp)), ih fun d hd => hc d (by simp [hd])]
  exact key _ fun c hc => List.mem_range.1 hc
theorem newT_edge {n : Nat} {ps : List (Int × Int)} {t : LatT} (hn : 1 ≤ n) (hp : PairsOk n ps) (h : newT n ps = some t) (ok : LatOk t) : EdgeOk t := by
  obtain ⟨h1, h2, h3, h4, h5⟩ := newT_some h
  have u : UpOk n t.up := by
    rw [h2]
    exact upsT_up fun q hq => by
      obtain ⟨b1, b2, b3, b4⟩ := hp q hq
      omega
  have d := downA_up u
  have hanti : ∀ a b, a < n → b < n → bitAt t.up a b = true → bitAt t.up b a = true → a = b := fun a b ha hb => cyc_anti h5 ha hb
  have hDbit : ∀ a b, a < n → b < n → bitAt (downA n t.up n) a b = bitAt t.up b a := fun a b ha hb => by
    have := downA_bit n t.up n a b ha
    unfold bitAt
    rw [this, decide_eq_true hb, Bool.true_and]
  have hDanti : ∀ a b, a < n → b < n → bitAt (downA n t.up n) a b = true → bitAt (downA n t.up n) b a = true → a = b := fun a b ha hb g1 g2 => by
    rw [hDbit a b ha hb] at g1
    rw [hDbit b a hb ha] at g2
    exact hanti a b ha hb g2 g1
  have l1 : ∀ k, k ≤ n → foldAt t.join k < n := by
    have := foldAt_lt (t := t.join) (n := t.n) ok.pos (fun a b ha hb => by obtain ⟨_, _, _, k⟩ := ok.joins a b ha hb; exact k)
    rw [h1] at this; exact this
  have l2 : ∀ k, k ≤ n → foldAt t.meet k < n := by
    have := foldAt_lt (t := t.meet) (n := t.n) ok.pos (fun a b ha hb => by obtain ⟨_, _, _, k⟩ := ok.meets a b ha hb; exact k)
    rw [h1] at this; exact this
  refine ⟨?_, ?_⟩
  · rw [h1, show topT t = foldAt t.join n by unfold topT; rw [h1]]
    exact edge_fold hanti (l1 n (Nat.le_refl _)) (fold_above u hn h3 l1)
  · rw [h1, show bottomT t = foldAt t.meet n by unfold bottomT; rw [h1], edgeF_congr (M' := bitAt (downA n t.up n)) (fun x y hx hy => (hDbit x y hx hy).symm)]
    exact edge_fold hDanti (l2 n (Nat.le_refl _)) (fold_above d hn h4 l2)
structure RSeerR (w : World) (K g : Nat) (s : SeerT) : Prop where
  glt : g < K
  ex : ∃ A c p, Blk w g 59 #[.slice A s.names.length c, .pointer (some ⟨p, 0, none⟩), .int .i64 (s.at_ : Int)] ∧ Reads w K 1 A s.names.length (txCells s.names) ∧ OrdR w K p s.lat
theorem RSeerR.below {w w' : World} {K g : Nat} {s : SeerT} (h : RSeerR w K g s) (hb : Below K w w') : RSeerR w' K g s := by
  obtain ⟨h1, A, c, p, hB, hn, hl⟩ := h
  exact ⟨h1, A, c, p, hB.below hb h1, hn.below hb, hl.below hb⟩
theorem RSeerR.up {w : World} {K K' g : Nat} {s : SeerT} (h : RSeerR w K g s) (hk : K ≤ K') : RSeerR w K' g s := by
  obtain ⟨h1, A, c, p, hB, hn, hl⟩ := h
  exact ⟨by omega, A, c, p, hB, hn.up hk, hl.up hk⟩

set_option maxHeartbeats 4000000 in
set_option maxRecDepth 100000 in
theorem refSees_any (g K : Nat) (s : SeerT) (A : Option Addr) (n c : Nat) (ls : List ByteArray) (w : World) (h : RSeerR w K g s) (ok : SeerOk s) (ed : EdgeOk s.lat) (hr : Reads w K 1 A n (txCells ls)) (hn : n ≤ 1099511627776) :
    Calls Tryz.prog 14 #[.pointer (some ⟨g, 0, none⟩), .slice A n c] w fun e w' => e = .returned (.bool (seesT s ls)) ∧ Below w.heap.size w w' := by
  have hlen : ls.length = n := by have := hr.1; simpa using this
  have HL := Lib.hid hlen
  clear hlen
  have h64 := ok.lat.n64
  have hn64 : s.names.length ≤ 64 := by rw [ok.len]; exact h64
  obtain ⟨hgK, AN, cN, p, hB, hN, hO⟩ := h
  obtain ⟨hpK, A1, c1, A2, c2, A3, c3, hP, hTL, hTJ, hTM⟩ := hO
  have k0 := hB.cell 0
  have k1 : w.cell? ⟨g, 0 + 1, none⟩ = some (.pointer (some ⟨p, 0, none⟩)) := hB.cell 1
  have k2 : w.cell? ⟨g, 0 + 2, none⟩ = some (.int .i64 (s.at_ : Int)) := hB.cell 2
  have p0 := hP.cell 0
  have p1 : w.cell? ⟨p, 0 + 1, none⟩ = some (.slice A1 s.lat.n c1) := hP.cell 1
  have p2 : w.cell? ⟨p, 0 + 2, none⟩ = some (.slice A2 s.lat.n c2) := hP.cell 2
  have HD := Lib.hid (fun q => refEdgeD_any p s.lat.n K A1 c1 _ _ _ (w.drewN q) (hP.drewN q) (hTL.drewN q) h64)
  have HU := Lib.hid (fun q => refEdgeU_any p s.lat.n K A1 c1 _ _ _ (w.drewN q) (hP.drewN q) (hTL.drewN q) h64)
  rw [ed.top] at HU
  rw [ed.bot] at HD
  simp only [optI] at HU HD
  have hbot : bottomT s.lat < s.lat.n := foldAt_lt ok.lat.pos (fun a b ha hb => by obtain ⟨_, _, _, k⟩ := ok.lat.meets a b ha hb; exact k) _ (Nat.le_refl _)
  have HLAB := Lib.hid (labAt_lt ok)
  obtain ⟨V, hV⟩ : ∃ V, seesT s ls = V := ⟨_, rfl⟩
  rw [hV]
  have HV := Lib.hid hV
  have hat := ok.at_
  have hi0 : (0 : Int) ≤ (s.at_ : Int) := by omega
  have hi1 : (s.at_ : Int) < (s.lat.n : Int) := by omega
  clear hV hP hTM
  go_enter Tryz.func14, Tryz.ntmps14
  go_wp2_with (go_at_call 40; refine (HD.out 0).mono ?_; rintro e w1 ⟨rfl, hw⟩; subst w1)
  go_loopw [5, 6] (fun s5 s6 wr => ∃ (k a : Nat), k ≤ n ∧ s6 = .int .i64 (k : Int) ∧ s5 = .int .i64 (a : Int) ∧ a < s.lat.n ∧ Hid (seesF s a (ls.drop k) = seesF s (bottomT s.lat) ls) ∧ ∃ q, wr = w.drewN q) (fun _ s6 _ => n - (intOf s6).toNat)
  case atStart => exact ⟨0, _, Nat.zero_le _, rfl, rfl, hbot, Lib.hid rfl, 0, rfl⟩
  case round =>
    clear hbot
    obtain ⟨k, a, hk, rfl, rfl, ha, HF, hq⟩ := hrel
    have hcell : ∀ p : Addr, wr.cell? p = w.cell? p := by obtain ⟨q, rfl⟩ := hq; exact fun _ => rfl
    have HQ := Lib.hid hq
    have m0 := (hcell _).trans k0
    have m1 := (hcell _).trans k1
    have m2 := (hcell _).trans k2
    have r0 := (hcell _).trans p0
    have r1' := (hcell _).trans p1
    have r2' := (hcell _).trans p2
    have hEU : Hid (∀ W : World, (∃ q, W = w.drewN q) → Calls Tryz.prog 40 #[.pointer (some ⟨p, 0, none⟩), .bool true] W fun e w' => e = .returned (.int .i64 (topT s.lat : Int)) ∧ w' = W) := Lib.hid (fun W hW => by obtain ⟨q, rfl⟩ := hW; exact HU.out q)
    clear hq k0 k1 k2 p0 p1 p2
    by_cases hlt : k < n
    · obtain ⟨ad, u, rfl, _, hx0, hc⟩ := hr.at_ hlt
      obtain ⟨x, hx, rfl⟩ : ∃ x, ls[k]? = some x ∧ Value.string x = u := by simpa using hx0
      have hlab := HLAB.out x
      have hF2 := HF.out
      rw [drop_one hx, seesF] at hF2
      have HF2 := Lib.hid hF2
      have HI := Lib.hid (fun W (hW : ∀ p : Addr, W.cell? p = wr.cell? p) => refAt_any AN s.names.length cN K s.names x W (hN.keep fun p _ => (hW p).trans (hcell p)) (by omega))
      have hlb : labAt s x = if idxT s.names x < 0 then topT s.lat else (idxT s.names x).toNat := rfl
      obtain ⟨lb, hlbe⟩ : ∃ lb, labAt s x = lb := ⟨_, rfl⟩
      rw [hlbe] at hlb hlab
      have HLB := Lib.hid hlbe
      obtain ⟨row, j1, j2, j3⟩ := ok.lat.joins a lb ha hlab
      obtain ⟨hrl, aj, Bj, cj, rfl, _, hcj, hrj⟩ := hTJ.2 a row j1
      obtain ⟨ar, v, rfl, _, hv0, hcr⟩ := hrj.at_ hlab
      have m3 := (hcell _).trans hc
      have m4 := (hcell _).trans hcj
      have m5 := (hcell _).trans hcr
      have hv : v = .int .i64 (rowAt s.lat.join a lb : Int) := by
        rw [List.getElem?_map, j2] at hv0
        exact (Option.some.inj hv0).symm
      subst hv
      have e1 : (0 : Int) ≤ (a : Int) := by omega
      have e2 : (a : Int) < (s.lat.n : Int) := by omega
      have e3 : (0 : Int) ≤ (lb : Int) := by omega
      have e4 : (lb : Int) < (s.lat.n : Int) := by omega
      clear hx hx0 hF2 j1 j2 hlbe hv0 hrl hc hcj hcr hcell
      by_cases hi : idxT s.names x < 0
      · rw [if_pos hi] at hlb
        have d1 : decide (idxT s.names x < 0) = true := decide_eq_true hi
        rw [← hlb] at hEU
        clear hlb
        generalize idxT s.names x = ix at *
        go_upto_region 5 with fail
        go_quiet ((go_at_call 12; exact Calls.quiet_of_same (HI.out _ (fun _ => rfl))))
        go_wp2_with (go_at_call 40; refine (hEU.out _ (by obtain ⟨q, hq⟩ := HQ.out; exact ⟨q + nq, by rw [hq, World.drewN_drewN]⟩)).mono ?_; rintro e w1 ⟨rfl, hw⟩; subst w1)
        go_roundw
        case rel => exact ⟨k + 1, _, by omega, by go_num, rfl, j3, Lib.hid (by have := HF2.out; rw [HLB.out] at this; exact this), by obtain ⟨q, hq⟩ := HQ.out; exact ⟨q + nq, by rw [hq, World.drewN_drewN]⟩⟩
        case measure => simp [intOf]; omega
      · rw [if_neg hi] at hlb
        obtain ⟨ix, hix⟩ := Int.eq_ofNat_of_zero_le (a := idxT s.names x) (by omega)
        rw [hix] at hlb hi HI
        have hlbx : ix = lb := by omega
        subst hlbx
        have d1 : decide ((ix : Int) < 0) = false := decide_eq_false hi
        clear hlb hix
        go_upto_region 5 with fail
        go_quiet ((go_at_call 12; exact Calls.quiet_of_same (HI.out _ (fun _ => rfl))))
        go_wp2_with (go_at_call 40; refine (hEU.out _ (by obtain ⟨q, hq⟩ := HQ.out; exact ⟨q + nq, by rw [hq, World.drewN_drewN]⟩)).mono ?_; rintro e w1 ⟨rfl, hw⟩; subst w1)
        go_roundw
        case rel => exact ⟨k + 1, _, by omega, by go_num, rfl, j3, Lib.hid (by have := HF2.out; rw [HLB.out] at this; exact this), by obtain ⟨q, hq⟩ := HQ.out; exact ⟨q + nq, by rw [hq, World.drewN_drewN]⟩⟩
        case measure => simp [intOf]; omega
    · have hkn : k = n := by omega
      have hR : Hid (V = (at0 s.lat.up a).testBit s.at_) := Lib.hid (by
        have h1 := HF.out
        rw [List.drop_eq_nil_of_le (by rw [HL.out]; omega), seesF] at h1
        rw [← HV.out]
        unfold seesT
        rw [← h1])
      obtain ⟨al, r1, e1, rfl, t1, t2⟩ := hTL.at_ ha hat
      have m3 := (hcell _).trans t1
      have m4 := (hcell _).trans t2
      clear t1 t2 hcell
      have e2 : (0 : Int) ≤ (a : Int) := by omega
      have e3 : (a : Int) < (s.lat.n : Int) := by omega
      go_upto_region 9 with fail
      go_quiet (fail)
      go_wp2_with fail
      go_ret
      refine ⟨by rw [hR.out]; rfl, ?_⟩
      obtain ⟨q, hq⟩ := HQ.out
      rw [hq]
      exact below_drewN' (below_drewN' (Below.refl _ _) _) _
end Go.Proofs.YtgdnphmannbpgaaGreatDoor
/-
  (*bowdlerref1.Seer).Line.
-/
namespace Go.Proofs.YtgdnphmannbpgaaGreatDoor
open Go.RowKit
set_option linter.unusedVariables false

theorem refSees_at (g K : Nat) (s : SeerT) (A : Option Addr) (n c : Nat) (ls : List ByteArray) (w : World) (h : RSeerR w K g s) (ok : SeerOk s) (ed : EdgeOk s.lat) (hK : K ≤ w.heap.size) (hr : Reads w w.heap.size 1 A n (txCells ls)) (hn : n ≤ 1099511627776) :
    Calls Tryz.prog 14 #[.pointer (some ⟨g, 0, none⟩), .slice A n c] w fun e w' => e = .returned (.bool (seesT s ls)) ∧ Below w.heap.size w w' :=
  refSees_any g w.heap.size s A n c ls w (h.up hK) ok ed hr hn
/-- what the document's Line makes of a labelled heading -/
theorem head_ref {l : ByteArray} {a lb : List UInt8} (h : headedT (L l) = some (a, lb)) : headT (S a) (S lb) = l.extract 0 (signsT a) ++ ⟨#[32, 123, 61]⟩ ++ S lb ++ ⟨#[125]⟩ ∧ signsT a ≤ l.size ∧ lb.length ≤ l.size := by
  obtain ⟨k, e, hlb, hs⟩ := headed_some h
  obtain ⟨i', n', g1, g2, g3, g4, g5, g6, g7, g8, g9⟩ := headed_parts h
  have hle := headed_le h
  rw [length_L] at hle
  refine ⟨?_, by omega, by omega⟩
  unfold headT
  have : (S a).extract 0 (signsT (L (S a))) = l.extract 0 (signsT a) := by
    rw [L_S]
    apply L_inj
    rw [L_extract, L_extract, L_S, e, List.drop_zero, List.drop_zero, List.take_append_of_le_length (by omega)]
  rw [this]

set_option maxHeartbeats 8000000 in
set_option maxRecDepth 100000 in
theorem refLine_any (g K : Nat) (s : SeerT) (l : ByteArray) (A : Option Addr) (n c : Nat) (u : List ByteArray) (w : World) (h : RSeerR w K g s) (ok : SeerOk s) (ed : EdgeOk s.lat) (hK : K ≤ w.heap.size) (hr : Reads w w.heap.size 1 A n (txCells u)) (hn : n ≤ 1000000) (hl : l.size ≤ 1048576) :
    Calls Tryz.prog 15 #[.pointer (some ⟨g, 0, none⟩), .string l, .slice A n c] w fun e w' => e = .returned (.string (lineT s l u)) ∧ Below w.heap.size w w' := by
  obtain ⟨V, hV⟩ : ∃ V, lineT s l u = V := ⟨_, rfl⟩
  rw [hV]
  have HV := Lib.hid hV
  clear hV
  have HH := Lib.hid (refHeaded_any l w (by omega))
  have HS := Lib.hid h
  have hgK := h.glt
  clear h
  have HSL := Lib.hid (spans_len l)
  have hcase : (refHeadV (L l) = .tuple #[.string ⟨#[]⟩, .string ⟨#[]⟩, .int .i64 0, .bool false] ∧ bodyT s l u = V) ∨ ∃ (va vb : ByteArray) (k : Nat), refHeadV (L l) = .tuple #[.string va, .string vb, .int .i64 (k : Int), .bool true] ∧ k ≤ l.size ∧ vb.size ≤ l.size ∧
      V = if seesT s (u ++ [vb]) then bodyT s l (u ++ [vb]) else l.extract 0 k ++ ⟨#[32, 123, 61]⟩ ++ vb ++ ⟨#[125]⟩ := by
    rcases hhe : headedT (L l) with _ | ⟨a, lb⟩
    · refine .inl ⟨by unfold refHeadV; rw [hhe], by rw [← HV.out]; unfold lineT; rw [hhe]⟩
    · obtain ⟨e1, e2, e3⟩ := head_ref hhe
      refine .inr ⟨S a, S lb, signsT a, by unfold refHeadV; rw [hhe], e2, by rw [size_S]; exact e3, ?_⟩
      rw [← HV.out]
      unfold lineT
      rw [hhe]
      simp only [e1]
  clear HV
  rcases hcase with ⟨hv, hb0⟩ | ⟨va, vb, k, hv, hkl, hvb, hVe⟩
  case' inl =>
    rw [hv] at HH
    have HBO := Lib.hid hb0
    clear hb0 hv
    go_enter Tryz.func15, Tryz.ntmps15
    go_upto_region 6 with (go_at_call 41; refine HH.out.mono ?_; rintro e w1 ⟨rfl, b1⟩)
    have hr2 := (hr.below b1).up b1.size
    have hbc := b1
    have hn2 : n ≤ n + 1 := by omega
    clear HH b1
    obtain ⟨A2, hA2⟩ : ∃ A2, A = A2 := ⟨_, rfl⟩
    obtain ⟨n2, hn2e⟩ : ∃ n2, n = n2 := ⟨_, rfl⟩
    obtain ⟨c2, hc2e⟩ : ∃ c2, c = c2 := ⟨_, rfl⟩
    obtain ⟨uu, huu⟩ : ∃ uu, u = uu := ⟨_, rfl⟩
    rw [hn2e] at hn2
    have hn2' : n2 ≤ 1000001 := by omega
    simp only [hA2, hn2e, hc2e, huu] at hr2 ⊢
    rw [huu] at HBO
    clear hn2 hA2 hn2e hc2e huu
    generalize w1 = wc at *
  case' inr =>
    rw [hv] at HH
    clear hv
    obtain ⟨sn, hsn⟩ : ∃ sn, seesT s (u ++ [vb]) = sn := ⟨_, rfl⟩
    have HSEE := Lib.hid (fun (A2 : Option Addr) (c2 : Nat) (w2 : World) (b2 : Below w.heap.size w w2) (h2 : Reads w2 w2.heap.size 1 A2 (n + 1) (txCells (u ++ [vb]))) =>
      (refSees_at g K s A2 (n + 1) c2 (u ++ [vb]) w2 (HS.out.below (b2.mono hK)) ok ed (by have := b2.size; omega) h2 (by omega)))
    rw [hsn] at HSEE hVe
    have HVE := Lib.hid hVe
    have y1 : (0 : Int) ≤ (k : Int) := by omega
    have y2 : (k : Int) ≤ (l.size : Int) := by omega
    clear hVe hsn
    cases sn
    case false =>
      have HV3 : Hid (V = l.extract 0 k ++ ⟨#[32, 123, 61]⟩ ++ vb ++ ⟨#[125]⟩) := Lib.hid (by rw [HVE.out]; rfl)
      have hsl2 : ∀ W : World, (Instr.slice 9 (.string l) none (some (.int .i64 (k : Int))) none).run Tryz.prog W = .ok (.string (l.extract 0 k)) W := fun W => by
        rw [run_slice_string_h W 9 l Tryz.underlying9 .i64 (k : Int) (by omega) (by omega)]; rfl
      have e3 : (l.extract 0 k).size ≤ 1048576 := by simp; omega
      have e1 : (⟨#[32, 123, 61]⟩ : ByteArray).size = 3 := rfl
      have p1 : ¬ 9223372036854775807 < (l.extract 0 k).size + 3 := by omega
      have p2 : ¬ 9223372036854775807 < (l.extract 0 k ++ ⟨#[32, 123, 61]⟩).size + vb.size := by rw [ByteArray.size_append, e1]; omega
      have p3 : ¬ 9223372036854775807 < (l.extract 0 k ++ ⟨#[32, 123, 61]⟩ ++ vb).size + 1 := by rw [ByteArray.size_append, ByteArray.size_append, e1]; omega
      have p4 : ¬ 9223372036854775807 < (l.extract 0 k).size + 3 + vb.size := by omega
      have p5 : ¬ 9223372036854775807 < (l.extract 0 k).size + 3 + vb.size + 1 := by omega
      have hks : min k l.size = k := Nat.min_eq_left hkl
      have p6 : ¬ 9223372036854775807 < k + 3 := by omega
      have p7 : ¬ 9223372036854775807 < k + 3 + vb.size := by omega
      have p8 : ¬ 9223372036854775807 < k + 3 + vb.size + 1 := by omega
      go_enter Tryz.func15, Tryz.ntmps15
      go_wp2_with (first
        | (go_at_call 41; refine HH.out.mono ?_; rintro e w1 ⟨rfl, b1⟩; have hr1 := (hr.below b1).up b1.size; have z1 := b1.size)
        | (go_at_call 42; refine (refWith_any A n c w1.heap.size u vb w1 hr1 (by omega)).mono ?_; rintro e w2 ⟨A2, c2, rfl, o2, b2⟩; have bb2 := b1.trans (b2.mono z1); have hr2 := o2.reads)
        | (go_at_call 14; refine (HSEE.out A2 c2 w2 bb2 hr2).mono ?_; rintro e w3 ⟨rfl, b3⟩; have bb3 := bb2.trans (b3.mono bb2.size)))
      go_ret
      rw [HV3.out]
      exact ⟨rfl, bb3⟩
    have HBO' : Hid (bodyT s l (u ++ [vb]) = V) := Lib.hid (by rw [HVE.out]; rfl)
    go_enter Tryz.func15, Tryz.ntmps15
    have st0 := trivial
    go_upto_region 6 with (first
      | (go_at_call 41; refine HH.out.mono ?_; rintro e w1 ⟨rfl, b1⟩; have hr1 := (hr.below b1).up b1.size; have z1 := b1.size)
      | (have st1 := st0; clear st0; go_at_call 42; refine (refWith_any A n c w1.heap.size u vb w1 hr1 (by omega)).mono ?_; rintro e w2 ⟨A2, c2, rfl, o2, b2⟩; have bb2 := b1.trans (b2.mono z1); have hr2 := o2.reads)
      | (go_at_call 14; refine (HSEE.out A2 c2 w2 bb2 hr2).mono ?_; rintro e w3 ⟨rfl, b3⟩; have bb3 := bb2.trans (b3.mono bb2.size); have hr3 := (hr1.below (b2.trans (b3.mono b2.size))).up (b2.trans (b3.mono b2.size)).size)
      | (have st2 := st1; clear st1; go_at_call 42; refine (refWith_any A n c w3.heap.size u vb w3 hr3 (by omega)).mono ?_; rintro e w4 ⟨A4, c4, rfl, o4, b4⟩; have bb4 := bb3.trans (b4.mono bb3.size); have hr4 := o4.reads))
    have hbc := bb4
    clear HH HSEE b1 b2 b3 b4 bb2 bb3 bb4 hr1 hr2 hr3 o2 o4 st2
    have hn2' : n + 1 ≤ 1000001 := by omega
    have hr2 := hr4
    have HBO := HBO'
    clear hr4 HBO'
    obtain ⟨n2, hn2e⟩ : ∃ n2, n + 1 = n2 := ⟨_, rfl⟩
    obtain ⟨uu, huu⟩ : ∃ uu, u ++ [vb] = uu := ⟨_, rfl⟩
    have hn2c : (n : Int) + 1 = (n2 : Int) := by omega
    simp only [hn2e, huu] at hr2 hn2' ⊢
    rw [huu] at HBO
    clear hn2c hn2e huu
    generalize w4 = wc at *
    generalize A4 = A2 at *
    generalize c4 = c2 at *
  all_goals
    have HS2 := Lib.hid ((HS.out.below (hbc.mono hK)).up (show K ≤ wc.heap.size by have := hbc.size; omega))
    have hzc := hbc.size
    go_wp2_with (go_at_call 43; refine (refSpans_any l wc hl).mono ?_; rintro e w5 ⟨A1, m, c1, rfl, o1, b5⟩)
    have hm : m = (spansT l).length := by
      have := o1.len
      rw [pieces_length] at this; omega
    have hml : m ≤ 1048576 := by have := HSL.out.1; omega
    have HM := Lib.hid hm
    clear hm
    obtain ⟨ps, hps⟩ : ∃ ps, spansT l = ps := ⟨_, rfl⟩
    rw [hps] at o1
    have HPS := Lib.hid hps
    clear hps
    go_loopw [12] (fun s12 wr => ∃ k, k ≤ m ∧ s12 = .int .i64 (k : Int) ∧ Own wr wc.heap.size 91 3 A1 m c1 (pieceCells (mixP (hideP s uu) ps k)) ∧ Below wc.heap.size wc wr) (fun s12 _ => m - (intOf s12).toNat)
    case atStart => exact ⟨0, Nat.zero_le _, rfl, by simpa [mixP] using o1, b5⟩
    case round =>
      clear o1 b5
      obtain ⟨k, hk, rfl, hown, hb⟩ := hrel
      have hzw := hb.size
      by_cases hlt : k < m
      · obtain ⟨x, hx⟩ : ∃ x, ps[k]? = some x := ⟨_, List.getElem?_eq_getElem (by have := HM.out; rw [HPS.out] at this; omega)⟩
        obtain ⟨q, rfl, hgb, _⟩ := hown.some_ (by omega)
        have hmx := mixP_get (hideP s uu) hx
        have tt := fun j (hj : j < 3) => flat_get PieceT.cells 3 piece_len (mixP (hideP s uu) ps k) k j hj hmx
        have t0 := hown.cell (j := k * 3) (u := .bool x.span) (by have := tt 0 (by omega); rw [Nat.add_zero] at this; exact this.trans rfl)
        have t1 := hown.cell (j := k * 3 + 1) (u := .string x.label) ((tt 1 (by omega)).trans rfl)
        have HZ := Lib.hid (tt 2 (by omega))
        clear tt
        have hbw := hbc.trans (hb.mono hzc)
        cases hsp : x.span
        · have HSAME : Hid (mixP (hideP s uu) ps (k + 1) = mixP (hideP s uu) ps k) := Lib.hid (mixP_same _ hx (by unfold hideP; rw [hsp]; rfl))
          rw [hsp] at t0
          clear hsp hx hmx
          go_wp2_with fail
          go_roundw
          case rel => exact ⟨k + 1, by omega, by go_num, by rw [HSAME.out]; exact hown, hb⟩
          case measure => simp [intOf]; omega
        · rw [hsp] at t0
          obtain ⟨sn, hsn⟩ : ∃ sn, seesT s (uu ++ [x.label]) = sn := ⟨_, rfl⟩
          have hr4 := (hr2.below hb).up hzw
          have HSEE := Lib.hid (fun (A3 : Option Addr) (c3 : Nat) (w3 : World) (b3 : Below wr.heap.size wr w3) (h3 : Reads w3 w3.heap.size 1 A3 (n2 + 1) (txCells (uu ++ [x.label]))) =>
            (refSees_at g K s A3 (n2 + 1) c3 (uu ++ [x.label]) w3 (HS.out.below ((hbw.trans (b3.mono (by have := hbw.size; omega))).mono hK)) ok ed (by have := hbw.size; have := b3.size; omega) h3 (by omega)))
          rw [hsn] at HSEE
          have HX : Hid (hideP s uu x = if sn then x else { x with text := ⟨#[]⟩ }) := Lib.hid (by unfold hideP; rw [hsp, hsn]; cases sn <;> rfl)
          cases sn
          · have hset := mixP_set (hideP s uu) hx
            have hflat := flat_set PieceT.cells 3 piece_len (mixP (hideP s uu) ps k) k 2 (by omega) hmx (x' := hideP s uu x) (v := .string ⟨#[]⟩) (by rw [HX.out]; rfl)
            rw [hset] at hflat
            have HFL := Lib.hid hflat
            clear hsp hsn hx hmx hset hflat
            go_wp2_with (first
              | (go_at_call 42; refine (refWith_any A2 n2 c2 wr.heap.size uu x.label _ hr4 (by omega)).mono ?_; rintro e w3 ⟨A3, c3, rfl, o3, b3⟩
                 have hr3 := o3.reads)
              | (go_at_call 14; refine (HSEE.out A3 c3 w3 b3 hr3).mono ?_; rintro e w5 ⟨rfl, b5⟩
                 have bb5 := b3.trans (b5.mono b3.size)
                 have hown5 := hown.below bb5 (Nat.le_refl _)
                 have f5 := hown5.frozen (k * 3 + 2)
                 have z5 := hown5.cell (j := k * 3 + 2) (u := .string x.text) (HZ.out.trans rfl)))
            have hown6 := hown5.stored (k * 3 + 2) (.string ⟨#[]⟩)
            have hfe : (pieceCells (mixP (hideP s uu) ps k)).set (k * 3 + 2) (.string ⟨#[]⟩) = pieceCells (mixP (hideP s uu) ps (k + 1)) := HFL.out
            rw [hfe] at hown6
            go_roundw
            case rel => exact ⟨k + 1, by omega, by go_num, hown6, (hb.trans (bb5.mono hzw)).setCell (p := ⟨q, k * 3 + 2, none⟩) hgb _⟩
            case measure => simp [intOf]; omega
          · have HSAME : Hid (mixP (hideP s uu) ps (k + 1) = mixP (hideP s uu) ps k) := Lib.hid (mixP_same _ hx HX.out)
            clear hsp hsn hx hmx
            go_wp2_with (first
              | (go_at_call 42; refine (refWith_any A2 n2 c2 wr.heap.size uu x.label _ hr4 (by omega)).mono ?_; rintro e w3 ⟨A3, c3, rfl, o3, b3⟩
                 have hr3 := o3.reads)
              | (go_at_call 14; refine (HSEE.out A3 c3 w3 b3 hr3).mono ?_; rintro e w5 ⟨rfl, b5⟩
                 have bb5 := b3.trans (b5.mono b3.size)
                 have hown5 := hown.below bb5 (Nat.le_refl _)))
            go_roundw
            case rel => exact ⟨k + 1, by omega, by go_num, by rw [HSAME.out]; exact hown5, hb.trans (bb5.mono hzw)⟩
            case measure => simp [intOf]; omega
      · have hkm : k = m := by omega
        subst hkm
        have hall : mixP (hideP s uu) ps k = ps.map (hideP s uu) := by
          unfold mixP
          have := HM.out
          rw [HPS.out] at this
          rw [this, List.take_length, List.drop_length, List.append_nil]
        rw [hall] at hown
        have HVV : Hid (S (piecesB (ps.map (hideP s uu))) = V) := Lib.hid (by rw [← HBO.out]; unfold bodyT; rw [HPS.out])
        have hpl : (piecesB (ps.map (hideP s uu))).length ≤ 1048576 := by
          have h1 := hide_len s uu ps
          have h2 := HSL.out.2
          rw [HPS.out] at h2
          omega
        have HUN := Lib.hid (refUnspan_any A1 k c1 (ps.map (hideP s uu)) wr hown.reads (by omega) (by omega))
        clear hall hpl
        go_wp2_with (go_at_call 44; refine HUN.out.mono ?_; rintro e w9 ⟨rfl, b9⟩)
        go_ret
        rw [HVV.out]
        exact ⟨rfl, (hbc.trans (hb.mono hzc)).trans (b9.mono (by omega))⟩
end Go.Proofs.YtgdnphmannbpgaaGreatDoor
/-
  bowdlerref1.Text.
-/
namespace Go.Proofs.YtgdnphmannbpgaaGreatDoor
open Go.RowKit
set_option linter.unusedVariables false

/-- the tables of unicode/utf8 -/
def Tabs (w : World) : Prop := Lib.Utf8Tabs 1 2 w
theorem Tabs.lt {w : World} (h : Tabs w) : 1 < w.heap.size ∧ 2 < w.heap.size :=
  ⟨World.block_lt_of_cell? w _ (h.1 0 (by decide)), World.block_lt_of_cell? w _ (h.2 0 (by decide)).1⟩
theorem Tabs.below {w w' : World} (h : Tabs w) (hb : Below w.heap.size w w') : Tabs w' :=
  ⟨fun c hc => (hb.cell h.lt.1).trans (h.1 c hc), fun i hi => ⟨(hb.cell h.lt.2).trans (h.2 i hi).1, (hb.cell h.lt.2).trans (h.2 i hi).2⟩⟩
/-- no LF behind a CR stands here -/
def noCL (s : ByteArray) (i : Nat) : Prop := ¬ (0 < i ∧ (L s)[i - 1]? = some 13 ∧ (L s)[i]? = some 10)
theorem decodeGo_at (s : ByteArray) (i : Nat) (h : i < s.size) : Lib.decodeGo (s.extract i s.size) = Utf8.decode s i := by
  unfold Lib.decodeGo
  rw [if_neg (by rw [ByteArray.size_extract]; omega), decode_drop, decode_drop, List.drop_zero, L_extract, ← length_L, List.take_length]
section
variable {s : ByteArray} {i : Nat}
theorem noCL_next (h : i < s.size) (hb : (L s)[i]? ≠ some 13) : noCL s (i + (Utf8.decode s i).2) := by
  obtain ⟨_, dw, dle, dmid⟩ := decode_span s i h
  rintro ⟨_, h13, _⟩
  rcases Nat.lt_or_ge 1 (Utf8.decode s i).2 with h1 | h1
  · have h2 := dmid (i + (Utf8.decode s i).2 - 1) (by omega) (by omega) (by omega)
    rw [List.getElem?_eq_getElem (by rw [length_L]; omega)] at h13
    rw [Option.some.inj h13] at h2
    exact absurd h2 (by decide)
  · rw [show i + (Utf8.decode s i).2 - 1 = i by omega] at h13
    exact hb h13
theorem byte13 (h : i < s.size) (hb : (L s)[i]? = some 13) : Utf8.decode s i = (13, 1) := by
  obtain ⟨⟨da, _⟩, _⟩ := decode_span s i h
  rw [List.getElem?_eq_getElem (by rw [length_L]; exact h)] at hb
  have := Option.some.inj hb
  rw [this] at da
  exact da (by decide)
theorem rune_small (h : i < s.size) {b : UInt8} (hb : (Utf8.decode s i).1 = b.toNat) (h128 : b.toNat < 128) : (L s)[i]? = some b := by
  obtain ⟨⟨da, dh⟩, _⟩ := decode_span s i h
  rw [List.getElem?_eq_getElem (by rw [length_L]; exact h)]
  rcases Nat.lt_or_ge ((L s)[i]'(by simpa using h)).toNat 128 with h1 | h1
  · have := da h1
    rw [this] at hb
    exact congrArg some (UInt8.toNat_inj.1 hb)
  · have := dh h1
    omega
theorem text_bad (h : i < s.size) (ha : ((Utf8.decode s i).1 = 65533 ∧ (Utf8.decode s i).2 ≤ 1) ∨ (Utf8.decode s i).1 = 0) : runeP s i = [239, 191, 189] ∧ noCL s (i + (Utf8.decode s i).2) := by
  refine ⟨?_, noCL_next h (fun e => ?_)⟩
  · unfold runeP
    rw [if_pos]
    rcases ha with ha | ha
    · exact .inr ha.1
    · exact .inl ha
  · rw [byte13 h e] at ha
    rcases ha with ha | ha
    · exact absurd ha.1 (by decide)
    · exact absurd ha (by decide)
theorem text_cr (h : i < s.size) (hb : (L s)[i]? = some 13) : runeP s i = [10] := by
  unfold runeP
  rw [byte13 h hb]
  rfl
theorem text_crlf (h : i + 1 < s.size) (hb : (L s)[i]? = some 13) (h2 : (L s)[i + 1]? = some 10) : runeP s (i + 1) = [] ∧ Utf8.decode s (i + 1) = (10, 1) ∧ noCL s (i + 2) := by
  have hd : Utf8.decode s (i + 1) = (10, 1) := by
    obtain ⟨⟨da, _⟩, _⟩ := decode_span s (i + 1) h
    rw [List.getElem?_eq_getElem (by rw [length_L]; exact h)] at h2
    have := Option.some.inj h2
    rw [this] at da
    exact da (by decide)
  refine ⟨?_, hd, ?_⟩
  · unfold runeP
    rw [hd, if_neg (by decide), if_neg (by decide), if_pos ⟨rfl, by omega, by simpa using hb⟩]
  · rintro ⟨_, h13, _⟩
    rw [show i + 2 - 1 = i + 1 by omega, h2] at h13
    cases h13
theorem text_else (h : i < s.size) (hn : noCL s i) (ha : ¬ (((Utf8.decode s i).1 = 65533 ∧ (Utf8.decode s i).2 ≤ 1) ∨ (Utf8.decode s i).1 = 0)) (hb : (L s)[i]? ≠ some 13) :
    runeP s i = L (s.extract i (i + (Utf8.decode s i).2)) ∧ noCL s (i + (Utf8.decode s i).2) := by
  refine ⟨?_, noCL_next h hb⟩
  have hl : L (s.extract i (i + (Utf8.decode s i).2)) = ((L s).drop i).take (Utf8.decode s i).2 := by rw [L_extract, mid_eq, Nat.add_sub_cancel_left]
  have hdw := (decode_span s i h).2.1
  have henc := Lib.encode_decode ((L s).drop i) (fun e => by have := congrArg List.length e; rw [List.length_drop, length_L] at this; simp at this; omega)
    (by rw [← decode_drop]; exact fun hv => ha (.inl ⟨hv.1, by omega⟩))
  rw [← decode_drop] at henc
  rw [hl, ← henc]
  unfold runeP
  by_cases h5 : (Utf8.decode s i).1 = 65533
  · rw [if_pos (.inr h5), h5]
    exact enc_bad.symm
  rw [if_neg (fun h' => h'.elim (fun h0 => ha (.inr h0)) h5), if_neg (show ¬ (Utf8.decode s i).1 = 13 from fun h13 => hb (rune_small h (b := 13) h13 (by decide))), if_neg (show ¬ ((Utf8.decode s i).1 = 10 ∧ 0 < i ∧ (L s)[i - 1]? = some 13) from fun h10 => hn ⟨h10.2.1, h10.2.2, rune_small h (b := 10) h10.1 (by decide)⟩)]
end
theorem textF_fuel (s : ByteArray) : ∀ (f g pos : Nat), s.size ≤ f + pos → s.size ≤ g + pos → textF s f pos = textF s g pos
  | 0, 0, _, _, _ => rfl
  | 0, g + 1, pos, h1, _ => by rw [textF, textF, if_neg (by omega)]
  | f + 1, 0, pos, _, h2 => by rw [textF, textF, if_neg (by omega)]
  | f + 1, g + 1, pos, h1, h2 => by
    rw [textF, textF]
    split
    · rename_i h
      have := (decode_span s pos h).2.1
      rw [textF_fuel s f g _ (by omega) (by omega)]
    · rfl

set_option maxHeartbeats 4000000 in
set_option maxRecDepth 100000 in
theorem refText_any (s : ByteArray) (w : World) (hT : Tabs w) (hs : s.size ≤ 1073741824) :
    Calls Tryz.prog 48 #[.string s] w fun e w' => e = .returned (.string (S (repT s))) ∧ Below w.heap.size w w' := by
  obtain ⟨R, hR⟩ : ∃ R, repT s = R := ⟨_, rfl⟩
  have HR : Hid (textF s s.size 0 = R) := Lib.hid hR
  rw [hR]
  clear hR
  go_enter Tryz.func48, Tryz.ntmps48
  go_wp2_with fail
  go_loopw [3, 4] (fun s3 s4 wr => ∃ (i f : Nat) (acc : ByteArray), i ≤ s.size ∧ s.size ≤ f + i ∧ s4 = .int .i64 (i : Int) ∧ s3 = .string acc ∧ acc.size ≤ 4 * i ∧ Hid (L acc ++ textF s f i = R) ∧ Hid (noCL s i) ∧ Below w.heap.size w wr) (fun _ s4 _ => s.size - (intOf s4).toNat)
  case atStart => exact ⟨0, s.size, ⟨#[]⟩, Nat.zero_le _, Nat.le_refl _, rfl, rfl, Nat.zero_le _, Lib.hid HR.out, Lib.hid (fun h => by omega), Below.refl _ _⟩
  case round =>
    obtain ⟨i, f, acc, hi, hf, rfl, rfl, hacc, HE, HC, hb⟩ := hrel
    have hbs := hb.size
    by_cases hlt : i < s.size
    · obtain ⟨f, rfl⟩ : ∃ f', f = f' + 1 := ⟨f - 1, by omega⟩
      have hdec := Tryz.utf8_DecodeRuneInString (s.extract i s.size) wr (hT.below hb)
      rw [decodeGo_at s i hlt] at hdec
      obtain ⟨_, dw, dle, _⟩ := decode_span s i hlt
      have hstep : textF s (f + 1) i = runeP s i ++ textF s f (i + (Utf8.decode s i).2) := by rw [textF, if_pos hlt]
      have hbad := text_bad hlt
      have hels := text_else hlt HC.out
      have hcr := text_cr hlt
      have hb13 := byte13 hlt
      have hget : (L s)[i]? = some (s[i]'hlt) := by rw [List.getElem?_eq_getElem (by rw [length_L]; exact hlt)]; rfl
      rw [hget] at hels hcr hb13
      generalize hD : Utf8.decode s i = D at *
      obtain ⟨r, d⟩ := D
      simp only at hdec dw dle hstep hbad hels hcr hb13
      have HD := Lib.hid hdec
      have x1 : (0 : Int) ≤ (i : Int) := by omega
      have x2 : (i : Int) ≤ (s.size : Int) := by omega
      have HST := Lib.hid hstep
      have e0 : (⟨#[239, 191, 189]⟩ : ByteArray).size = 3 := rfl
      have e1 : (⟨#[10]⟩ : ByteArray).size = 1 := rfl
      have p1 : ¬ 9223372036854775807 < acc.size + 3 := by omega
      have p2 : ¬ 9223372036854775807 < acc.size + 1 := by omega
      clear hdec hD hstep
      by_cases hA : (r = 65533 ∧ d ≤ 1) ∨ r = 0
      · obtain ⟨t1, t2⟩ := hbad hA
        have HE2 : Hid (L (acc ++ ⟨#[239, 191, 189]⟩) ++ textF s f (i + d) = R) := Lib.hid (by
          rw [← HE.out, HST.out, t1, L_append, List.append_assoc]; rfl)
        have HC2 := Lib.hid t2
        have hz : (acc ++ ⟨#[239, 191, 189]⟩ : ByteArray).size ≤ 4 * (i + d) := by rw [ByteArray.size_append, e0]; omega
        clear t1 t2 hbad hels hcr hb13 hget
        rcases hA with ⟨rfl, hd1⟩ | rfl
        · have d1 : (d : Int) ≤ 1 := by omega
          go_wp2_with (go_at_call 78; refine HD.out.mono ?_; rintro e w1 ⟨rfl, b1⟩; have bb1 := hb.trans (b1.mono hbs))
          go_roundw
          case rel => exact ⟨i + d, f, _, dle, by omega, by go_num, rfl, hz, HE2, HC2, bb1⟩
          case measure => simp [intOf]; omega
        · go_wp2_with (go_at_call 78; refine HD.out.mono ?_; rintro e w1 ⟨rfl, b1⟩; have bb1 := hb.trans (b1.mono hbs))
          go_roundw
          case rel => exact ⟨i + d, f, _, dle, by omega, by go_num, rfl, hz, HE2, HC2, bb1⟩
          case measure => simp [intOf]; omega
      have hr0 : r ≠ 0 := fun h => hA (.inr h)
      have q0 : ((r : Int) == 0) = false := beq_eq_false_iff_ne.2 (by omega)
      have hr5 : ((r : Int) == 65533) = false ∨ (((r : Int) == 65533) = true ∧ ¬ (d : Int) ≤ 1) := by
        by_cases h5 : r = 65533
        · exact .inr ⟨by rw [h5]; rfl, fun h => hA (.inl ⟨h5, by omega⟩)⟩
        · exact .inl (beq_eq_false_iff_ne.2 (by omega))
      by_cases hbx : s[i]'hlt = 13
      · have h2 := hb13 (by rw [hbx])
        obtain ⟨rfl, rfl⟩ : r = 13 ∧ d = 1 := by injection h2 with h3 h4; exact ⟨h3, h4⟩
        have hRP := hcr (by rw [hbx])
        have q1 : (((s[i]'hlt).toNat : Int) == 13) = true := by rw [hbx]; rfl
        have hg13 : (L s)[i]? = some 13 := by rw [hget, hbx]
        have hz : (acc ++ ⟨#[10]⟩ : ByteArray).size ≤ 4 * (i + 1) := by rw [ByteArray.size_append, e1]; omega
        clear hbad hels hcr hb13 hget h2 hr5 hA hbx
        obtain ⟨i1, hi1⟩ : ∃ i1, i + 1 = i1 := ⟨_, rfl⟩
        have hki : (i : Int) + 1 = (i1 : Int) := by omega
        have hw1 : IntKind.i64.wrap ((i : Int) + 1) = (i1 : Int) := (IntWalk.i64_in _ (by omega)).trans (by omega)
        have hnext : ∀ (hl : i1 < s.size), s[i1]'hl ≠ 10 → noCL s i1 := fun hl hne => by
          rintro ⟨_, _, h10⟩
          rw [List.getElem?_eq_getElem (by rw [length_L]; exact hl)] at h10
          exact hne (Option.some.inj h10)
        have HE1 : Hid (L (acc ++ ⟨#[10]⟩) ++ textF s f i1 = R) := Lib.hid (by
          rw [← HE.out, HST.out, hRP, L_append, List.append_assoc, hi1]; rfl)
        have HI1 := Lib.hid hi1
        by_cases hl1 : i1 < s.size
        · by_cases hb1 : s[i1]'hl1 = 10
          · have hg10 : (L s)[i + 1]? = some 10 := by rw [hi1, List.getElem?_eq_getElem (by rw [length_L]; exact hl1)]; exact congrArg some hb1
            obtain ⟨u1, u2, u3⟩ := text_crlf (by rw [hi1]; exact hl1) hg13 hg10
            obtain ⟨f2, hf2⟩ : ∃ f2, f = f2 + 1 := ⟨f - 1, by omega⟩
            have HE2 : Hid (L (acc ++ ⟨#[10]⟩) ++ textF s f2 (i + 2) = R) := Lib.hid (by
              have h1 := HE1.out
              rw [hf2, textF, if_pos hl1, ← hi1, u1, u2, List.nil_append] at h1
              exact h1)
            have HC2 := Lib.hid u3
            have q2 : (((s[i1]'hl1).toNat : Int) == 10) = true := by rw [hb1]; rfl
            have hz2 : (acc ++ ⟨#[10]⟩ : ByteArray).size ≤ 4 * (i + 2) := by omega
            have hbnd : i + 2 ≤ s.size := by omega
            have hfb : s.size ≤ f2 + (i + 2) := by omega
            clear hb1 hg10 u1 u2 u3 hf2 hi1 hg13 hRP hnext hz
            go_wp2_with (go_at_call 78; refine HD.out.mono ?_; rintro e w1 ⟨rfl, b1⟩; have bb1 := hb.trans (b1.mono hbs))
            go_roundw
            case rel => exact ⟨i + 2, f2, _, hbnd, hfb, by go_num, rfl, hz2, HE2, HC2, bb1⟩
            case measure => simp [intOf]; omega
          · have HC2 := Lib.hid (hnext hl1 hb1)
            have q2 : (((s[i1]'hl1).toNat : Int) == 10) = false := byte_ne (n := 10) (by decide) hb1
            rw [hi1] at hz dle
            clear hb1 hi1 hg13 hRP hnext
            go_wp2_with (go_at_call 78; refine HD.out.mono ?_; rintro e w1 ⟨rfl, b1⟩; have bb1 := hb.trans (b1.mono hbs))
            go_roundw
            case rel => exact ⟨i1, f, _, dle, by have := HI1.out; omega, by first | rfl | go_num, rfl, hz, HE1, HC2, bb1⟩
            case measure => have := HI1.out; simp [intOf]; omega
        · have HC2 : Hid (noCL s i1) := Lib.hid (by
            rintro ⟨_, _, h10⟩
            rw [List.getElem?_eq_none (by rw [length_L]; omega)] at h10
            cases h10)
          have d2 : ¬ (i1 : Int) < (s.size : Int) := by omega
          rw [hi1] at hz dle
          clear hi1 hg13 hRP hnext
          go_wp2_with (go_at_call 78; refine HD.out.mono ?_; rintro e w1 ⟨rfl, b1⟩; have bb1 := hb.trans (b1.mono hbs))
          go_roundw
          case rel => exact ⟨i1, f, _, dle, by have := HI1.out; omega, by first | rfl | go_num, rfl, hz, HE1, HC2, bb1⟩
          case measure => have := HI1.out; simp [intOf]; omega
      · obtain ⟨t1, t2⟩ := hels hA (fun h => hbx (Option.some.inj h))
        have q1 : (((s[i]'hlt).toNat : Int) == 13) = false := byte_ne (n := 13) (by decide) hbx
        obtain ⟨j, hj⟩ : ∃ j, i + d = j := ⟨_, rfl⟩
        have hki : (i : Int) + (d : Int) = (j : Int) := by omega
        have hij : i ≤ j := by omega
        rw [hj] at t1 t2 dle
        obtain ⟨cb, hcb⟩ : ∃ cb, s.extract i j = cb := ⟨_, rfl⟩
        have hcbs : cb.size ≤ d := by rw [← hcb]; simp; omega
        have hd4 : d ≤ 1073741824 := by omega
        have hRL : (runeP s i).length ≤ 4 := runeP_le s i
        rw [hcb] at t1
        have hcb4 : cb.size ≤ 4 := by rw [t1, length_L] at hRL; exact hRL
        have HE2 : Hid (L (acc ++ cb) ++ textF s f j = R) := Lib.hid (by
          rw [← HE.out, HST.out, t1, L_append, List.append_assoc, hj])
        have HC2 := Lib.hid t2
        have hz : (acc ++ cb : ByteArray).size ≤ 4 * j := by rw [ByteArray.size_append]; omega
        have hsl : ∀ W : World, (Instr.slice 9 (.string s) (some (.int .i64 (i : Int))) (some (.int .i64 (j : Int))) none).run Tryz.prog W = .ok (.string cb) W := fun W => by
          rw [run_slice_string W 9 s .i64 .i64 (i : Int) (j : Int) Tryz.underlying9 (by omega) (by omega) (by omega), ← hcb]; rfl
        have p3 : ¬ 9223372036854775807 < acc.size + cb.size := by omega
        have hfj : s.size ≤ f + j := by omega
        have hji : i < j := by omega
        clear t1 t2 hbad hels hcr hb13 hget hRL hj hcb hA hbx
        rcases hr5 with q5 | ⟨q5, q6⟩
        all_goals
          go_wp2_with (go_at_call 78; refine HD.out.mono ?_; rintro e w1 ⟨rfl, b1⟩; have bb1 := hb.trans (b1.mono hbs))
          go_roundw
          case rel => exact ⟨j, f, _, dle, hfj, by first | rfl | go_num, rfl, hz, HE2, HC2, bb1⟩
          case measure => simp [intOf]; omega
    · have his : i = s.size := by omega
      have HE2 : Hid (S R = acc) := Lib.hid (by
        have h1 := HE.out
        have : textF s f i = [] := by
          cases f with
          | zero => rfl
          | succ f => rw [textF, if_neg (by omega)]
        rw [this, List.append_nil] at h1
        rw [← h1, S_L])
      go_wp2_with fail
      go_ret
      rw [HE2.out]
      exact ⟨rfl, hb⟩
end Go.Proofs.YtgdnphmannbpgaaGreatDoor
