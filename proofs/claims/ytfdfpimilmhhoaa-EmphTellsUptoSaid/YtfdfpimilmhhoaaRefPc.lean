/-
  bowdlerref14: words, left, all, Deeper, close and opener: their contracts.
-/
import Derived.Test.YtfdfpimilmhhoaaAliveE
import Derived.Deep.DeepCutAuto
namespace Go.Proofs.Ytfdfpimilmhhoaa
open Go.RowKit
set_option linter.unusedVariables false

/-- a piece, as the reference keeps it -/
def riCells (p : Pc) : List Value := [.int .u8 (p.sign.toNat : Int), .int .i64 p.left, .int .i64 p.n, .bool p.opn, .bool p.cls, .slice p.A p.ln p.cp, .string ⟨#[]⟩, .int .i64 0, .bool p.shut]
abbrev riAgg (p : Pc) : Value := .agg #[.int .u8 (p.sign.toNat : Int), .int .i64 p.left, .int .i64 p.n, .bool p.opn, .bool p.cls, .slice p.A p.ln p.cp, .string ⟨#[]⟩, .int .i64 0, .bool p.shut]
theorem ri_len (p : Pc) : (riCells p).length = 9 := rfl
abbrev rlCells (l : List Pc) : List Value := l.flatMap riCells
theorem ri_one (l : List Pc) : ∀ u ∈ rlCells l, u.oneCell' = true := by
  intro u hu
  obtain ⟨x, _, hx⟩ := List.mem_flatMap.1 hu
  simp only [riCells, List.mem_cons, List.not_mem_nil, or_false] at hx
  rcases hx with rfl | rfl | rfl | rfl | rfl | rfl | rfl | rfl | rfl <;> rfl
theorem Try.infoRi : (Try.prog.info? 56).map (fun i => (i.zero, i.size, i.bytes)) = some (some (.agg #[.int .u8 0, .int .i64 0, .int .i64 0, .bool false, .bool false, .slice none 0 0, .string ⟨#[]⟩, .int .i64 0, .bool false]), 9, 88) := by kernel_rfl
theorem Try.elRis : Elem Try.prog 52 56 9 88 := Elem.mk' Try.underlying52 Try.infoRi rfl (by decide)
theorem Reads.ri {w : World} {B m : Nat} {A : Option Addr} {l : List Pc} (h : Reads w B 9 A m (rlCells l)) {i : Nat} {p : Pc} (hp : l[i]? = some p) : ∃ ad, A = some ad ∧ ad.block < B ∧ i < m ∧
    w.cell? (ad.add (i * 9)) = some (.int .u8 (p.sign.toNat : Int)) ∧
    w.cell? ⟨(ad.add (i * 9)).block, (ad.add (i * 9)).off + 1, none⟩ = some (.int .i64 p.left) ∧
    w.cell? ⟨(ad.add (i * 9)).block, (ad.add (i * 9)).off + 2, none⟩ = some (.int .i64 p.n) ∧
    w.cell? ⟨(ad.add (i * 9)).block, (ad.add (i * 9)).off + 3, none⟩ = some (.bool p.opn) ∧
    w.cell? ⟨(ad.add (i * 9)).block, (ad.add (i * 9)).off + 4, none⟩ = some (.bool p.cls) ∧
    w.cell? ⟨(ad.add (i * 9)).block, (ad.add (i * 9)).off + 5, none⟩ = some (.slice p.A p.ln p.cp) ∧
    w.cell? ⟨(ad.add (i * 9)).block, (ad.add (i * 9)).off + 6, none⟩ = some (.string ⟨#[]⟩) ∧
    w.cell? ⟨(ad.add (i * 9)).block, (ad.add (i * 9)).off + 7, none⟩ = some (.int .i64 0) ∧
    w.cell? ⟨(ad.add (i * 9)).block, (ad.add (i * 9)).off + 8, none⟩ = some (.bool p.shut) := by
  have hl : l.length = m := by have := h.1; rw [flat_length _ 9 ri_len] at this; omega
  have hi : i < m := by rw [← hl]; exact (List.getElem?_eq_some_iff.1 hp).1
  obtain ⟨ad, rfl, hb, hc0, hcj⟩ := h.elem hi
  have g := fun j (hj : j < 9) => flat_get riCells 9 ri_len l i j hj hp
  exact ⟨ad, rfl, hb, hi, hc0 _ (by have := g 0 (by omega); rw [Nat.add_zero] at this; rw [this]; rfl), hcj 1 _ (by omega) (by rw [g 1 (by omega)]; rfl), hcj 2 _ (by omega) (by rw [g 2 (by omega)]; rfl), hcj 3 _ (by omega) (by rw [g 3 (by omega)]; rfl),
    hcj 4 _ (by omega) (by rw [g 4 (by omega)]; rfl), hcj 5 _ (by omega) (by rw [g 5 (by omega)]; rfl), hcj 6 _ (by omega) (by rw [g 6 (by omega)]; rfl), hcj 7 _ (by omega) (by rw [g 7 (by omega)]; rfl), hcj 8 _ (by omega) (by rw [g 8 (by omega)]; rfl)⟩

theorem byte_conv (b : UInt8) (w : World) : (convert 67 9 (.slice (some ⟨w.heap.size, 0, none⟩) 1 1)).run Try.prog (w.alloc (.cells #[.int .u8 (b.toNat : Int)] 5)) = .ok (.string (S [b])) (w.alloc (.cells #[.int .u8 (b.toNat : Int)] 5)) := by
  refine run_convert_bytes_back _ _ _ 5 _ 1 [b] Try.underlying67 Try.underlying5 Try.underlying9 (fun j hj => ?_)
  have : j = 0 := by simpa using hj
  subst this
  exact (Blk.new w 5 #[.int .u8 (b.toNat : Int)]).cell 0

theorem refWords_any (s : ByteArray) (w : World) : Calls Try.prog 109 #[.string s] w fun e w' => ∃ A, e = .returned (.slice A 1 1) ∧ Own w' w.heap.size 95 5 A 1 1 (inlCells [⟨1, 0, s, ⟨#[]⟩, ⟨#[]⟩⟩]) ∧ Below w.heap.size w w' := by
  go_enter Try.func109, Try.ntmps109
  go_wp2
  go_ret
  exact ⟨some ⟨w.heap.size, 0, none⟩, rfl, World.ownsRow_lit w _ 1 (by omega) (by decide) rfl, (Below.refl _ _).alloc (Nat.le_refl _) _⟩

/-- a piece's nodes in the reference: a row without signs is a text without bytes -/
def rNodes (p : Pc) : List Inl := if p.sign = 0 then p.l else [⟨1, 0, pcText p.sign p.left, ⟨#[]⟩, ⟨#[]⟩⟩]

set_option maxHeartbeats 2000000 in
set_option maxRecDepth 100000 in
theorem refLeft_any (p : Pc) (B0 : Nat) (w : World) (hB : B0 ≤ w.heap.size) (hL : Live w B0 p.A p.ln p.cp p.l) (h0 : 0 ≤ p.left) (hl : p.left ≤ 1048576) :
    Calls Try.prog 100 #[riAgg p] w fun e w' => ∃ A n c, e = .returned (.slice A n c) ∧ Live w' B0 A n c (rNodes p) ∧ Below w.heap.size w w' := by
  obtain ⟨sign, n, opn, cls, A, ln, cp, l, left, shut⟩ := p
  simp only at *
  simp only [riAgg]
  obtain ⟨lf, rfl⟩ : ∃ lf : Nat, left = (lf : Int) := ⟨left.toNat, by omega⟩
  by_cases hs : sign = 0
  · subst hs
    go_enter Try.func100, Try.ntmps100
    go_wp2_with fail
    go_ret
    exact ⟨A, ln, cp, rfl, hL.alloc hB _, (Below.refl _ _).alloc (Nat.le_refl _) _⟩
  · have q : ((sign.toNat : Int) == 0) = false := beq_eq_false_iff_ne.2 (by have := u8_ne hs; omega)
    have HN := Lib.hid (show rNodes ⟨sign, n, opn, cls, A, ln, cp, l, (lf : Int), shut⟩ = [⟨1, 0, S (List.replicate lf sign), ⟨#[]⟩, ⟨#[]⟩⟩] from by unfold rNodes; rw [if_neg hs]; rfl)
    have hX : Blk (w.alloc (.cells #[.int .u8 (sign.toNat : Int), .int .i64 (lf : Int), .int .i64 n, .bool opn, .bool cls, .slice A ln cp, .string ⟨#[]⟩, .int .i64 0, .bool shut] 56)) w.heap.size 56 #[.int .u8 (sign.toNat : Int), .int .i64 (lf : Int), .int .i64 n, .bool opn, .bool cls, .slice A ln cp, .string ⟨#[]⟩, .int .i64 0, .bool shut] := Blk.new _ _ _
    have bX : Below w.heap.size w (w.alloc (.cells #[.int .u8 (sign.toNat : Int), .int .i64 (lf : Int), .int .i64 n, .bool opn, .bool cls, .slice A ln cp, .string ⟨#[]⟩, .int .i64 0, .bool shut] 56)) := (Below.refl _ _).alloc (Nat.le_refl _) _
    have hgx : w.heap.size < (w.alloc (.cells #[.int .u8 (sign.toNat : Int), .int .i64 (lf : Int), .int .i64 n, .bool opn, .bool cls, .slice A ln cp, .string ⟨#[]⟩, .int .i64 0, .bool shut] 56)).heap.size := by simp
    go_enter Try.func100, Try.ntmps100
    go_upto_region 7 with fail
    go_loopw [3, 4] (fun s3 s4 wr => ∃ k : Nat, k ≤ lf ∧ s4 = .int .i64 (k : Int) ∧ s3 = .string (S (List.replicate k sign)) ∧ Blk wr w.heap.size 56 #[.int .u8 (sign.toNat : Int), .int .i64 (lf : Int), .int .i64 n, .bool opn, .bool cls, .slice A ln cp, .string ⟨#[]⟩, .int .i64 0, .bool shut] ∧ Below w.heap.size w wr ∧ w.heap.size < wr.heap.size) (fun _ s4 _ => lf - (intOf s4).toNat)
    case atStart => exact ⟨0, Nat.zero_le _, rfl, rfl, hX, bX, hgx⟩
    case round =>
      clear hX bX hgx
      obtain ⟨k, hk, rfl, rfl, hX, hb, hgx⟩ := hrel
      have x0 : wr.cell? ⟨w.heap.size, 0, none⟩ = some (.int .u8 (sign.toNat : Int)) := hX.cell 0
      have x1 : wr.cell? ⟨w.heap.size, 1, none⟩ = some (.int .i64 (lf : Int)) := hX.cell 1
      by_cases hlt : k < lf
      · have hcv := byte_conv sign wr
        have hz : (S (List.replicate k sign)).size = k := by simp
        have p1 : ¬ 9223372036854775807 < (S (List.replicate k sign)).size + (S [sign]).size := by rw [hz, size_S]; simp; omega
        have HE : Hid (S (List.replicate k sign) ++ S [sign] = S (List.replicate (k + 1) sign)) := Lib.hid (by rw [append_S, L_S, List.replicate_succ'])
        generalize S (List.replicate k sign) = acc at *
        generalize S [sign] = one at *
        clear hz
        go_wp2_with fail
        go_roundw
        case rel => exact ⟨k + 1, by omega, by go_num, by rw [← HE.out], hX.alloc _, hb.alloc (Nat.le_of_lt hgx) _, by simp; omega⟩
        case measure => simp [intOf]; omega
      · have hkl : k = lf := by omega
        subst hkl
        go_wp2_with fail
        refine (refWords_any _ _).mono ?_
        rintro e w1 ⟨A1, rfl, hO1, b1⟩
        go_wp2_with fail
        go_ret
        rw [HN.out]
        exact ⟨A1, 1, 1, rfl, .inr (hO1.base_le (by omega)), hb.trans (b1.mono (Nat.le_of_lt hgx))⟩
  
set_option maxHeartbeats 2000000 in
set_option maxRecDepth 100000 in
theorem refClose_any (p : Pc) (w : World) : Calls Try.prog 75 #[riAgg p] w fun e w' => e = .returned (.bool (p.cls && !p.shut && decide (0 < p.left))) ∧ Below w.heap.size w w' := by
  obtain ⟨sign, n, opn, cls, A, ln, cp, l, left, shut⟩ := p
  simp only at *
  simp only [riAgg]
  have bX : ∀ o, Below w.heap.size w (w.alloc o) := fun o => (Below.refl _ _).alloc (Nat.le_refl _) o
  cases cls <;> cases shut <;> by_cases hl : 0 < left
  all_goals
    go_enter Try.func75, Try.ntmps75
    go_wp2_with fail
    go_ret
    exact ⟨by simp [hl], bX _⟩

set_option maxHeartbeats 2000000 in
set_option maxRecDepth 100000 in
theorem refDeeper_any (A : Option Addr) (n c : Nat) (l : List Inl) (w : World) (hr : Reads w w.heap.size 5 A n (inlCells l)) (hn : n ≤ 1073741824) :
    Calls Try.prog 77 #[.slice A n c] w fun e w' => ∃ A' c', e = .returned (.slice A' n c') ∧ Own w' w.heap.size 95 5 A' n c' (inlCells (deepT l)) ∧ Below w.heap.size w w' := by
  have hlen : l.length = n := by have := hr.1; rw [flat_length _ 5 inl_len] at this; omega
  have HL := Lib.hid hlen
  clear hlen
  go_enter Try.func77, Try.ntmps77
  go_wp2_with fail
  go_loopw [3, 4] (fun out i wr => ∃ (k : Nat) (A1 : Option Addr) (c1 : Nat), k ≤ n ∧ i = .int .i64 k ∧ out = .slice A1 k c1 ∧ Own wr w.heap.size 95 5 A1 k c1 (inlCells (deepT (l.take k))) ∧ Below w.heap.size w wr)
    (fun _ i _ => n - (intOf i).toNat)
  case atStart => exact ⟨0, none, 0, Nat.zero_le _, rfl, rfl, Own.nil _ _ _ _, Below.refl _ _⟩
  case round =>
    obtain ⟨k, A1, c1, hk, rfl, rfl, hown, hb⟩ := hrel
    by_cases hlt : k < n
    · obtain ⟨x, hx⟩ : ∃ x, l[k]? = some x := ⟨_, List.getElem?_eq_getElem (by rw [HL.out]; omega)⟩
      obtain ⟨ad, rfl, _, _, g0, g1, g2, g3, g4⟩ := (hr.below hb).inl hx
      have hbs := hb.size
      have HK : Hid (deepT (l.take (k + 1)) = deepT (l.take k) ++ [{ x with depth := wrap64 (x.depth + 1) }]) := Lib.hid (by
        rw [List.take_add_one, hx]; simp [deepT])
      clear hx
      generalize deepT (l.take k) = kl at *
      go_wp2_with (at_builtin; refine wpList_app1 Try.elInls rfl (.tmp 20) (.tmp 22) rfl rfl (by exact (hown.alloc _).alloc _) rfl (Blk.new' _ _ _ _ (by simp)) rfl (by simp [Value.oneCell']) (by simp only [maxLen]; omega) (by omega) (by simp; omega) ?_
                   intro A1' c1' w1 hown1 ho1 hm1)
      go_roundw
      case rel =>
        refine ⟨k + 1, A1', c1', by omega, by go_num, rfl, ?_, hb.trans (ho1.of_alloc.of_alloc.below (fun a ha => (hown.lt ha).1) hbs)⟩
        rw [HK.out]
        simpa [inlCells, Inl.cells] using hown1
      case measure => simp [intOf]; omega
    · go_wp2_with fail
      go_ret
      have : k = n := by omega
      subst this
      rw [List.take_of_length_le (by rw [HL.out]; omega)] at hown
      exact ⟨A1, c1, rfl, hown, hb⟩

theorem flat_next {α : Type} {ps : List Pc} {f : Pc → List α} {k : Nat} {p : Pc} (hp : ps[k]? = some p) : (ps.take (k + 1)).flatMap f = (ps.take k).flatMap f ++ f p := by
  rw [List.take_add_one, hp]; simp
theorem flat_take_le {α : Type} {ps : List Pc} {f : Pc → List α} (k : Nat) : ((ps.take k).flatMap f).length ≤ (ps.flatMap f).length := by
  have h : ps.flatMap f = (ps.take k).flatMap f ++ (ps.drop k).flatMap f := by rw [← List.flatMap_append, List.take_append_drop]
  rw [h, List.length_append]; omega
set_option maxHeartbeats 4000000 in
set_option maxRecDepth 100000 in
theorem refAll_any (A : Option Addr) (m c B0 : Nat) (ps : List Pc) (w : World) (hr : Reads w w.heap.size 9 A m (rlCells ps)) (hB : B0 ≤ w.heap.size) (hL : ∀ p ∈ ps, Live w B0 p.A p.ln p.cp p.l) (hm : m ≤ 1048576)
    (hlf : ∀ p ∈ ps, 0 ≤ p.left ∧ p.left ≤ 1048576) (hn : (ps.flatMap rNodes).length ≤ 1073741824) :
    Calls Try.prog 78 #[.slice A m c] w fun e w' => ∃ A' c', e = .returned (.slice A' (ps.flatMap rNodes).length c') ∧ Own w' w.heap.size 95 5 A' (ps.flatMap rNodes).length c' (inlCells (ps.flatMap rNodes)) ∧ Below w.heap.size w w' := by
  have hlen : ps.length = m := by have := hr.1; rw [flat_length _ 9 ri_len] at this; omega
  have HL := Lib.hid hlen
  have HN := Lib.hid hn
  clear hlen hn
  go_enter Try.func78, Try.ntmps78
  go_wp2_with fail
  go_loopw [3, 4] (fun out i wr => ∃ (k t : Nat) (A1 : Option Addr) (c1 : Nat), k ≤ m ∧ Hid (((ps.take k).flatMap rNodes).length = t) ∧ i = .int .i64 k ∧ out = .slice A1 t c1 ∧ Own wr w.heap.size 95 5 A1 t c1 (inlCells ((ps.take k).flatMap rNodes)) ∧ Below w.heap.size w wr)
    (fun _ i _ => m - (intOf i).toNat)
  case atStart => exact ⟨0, 0, none, 0, Nat.zero_le _, Lib.hid rfl, rfl, rfl, Own.nil _ _ _ _, Below.refl _ _⟩
  case round =>
    obtain ⟨k, t, A1, c1, hk, HT, rfl, rfl, hown, hb⟩ := hrel
    by_cases hlt : k < m
    · obtain ⟨p, hp⟩ : ∃ p, ps[k]? = some p := ⟨_, List.getElem?_eq_getElem (by rw [HL.out]; omega)⟩
      obtain ⟨ad, rfl, _, _, g0, g1, g2, g3, g4, g5, g6, g7, g8⟩ := (hr.below hb).ri hp
      have hbs := hb.size
      have HNX := Lib.hid (flat_next (f := rNodes) hp)
      obtain ⟨l0, l1⟩ := hlf p (List.mem_of_getElem? hp)
      have hLp := (hL p (List.mem_of_getElem? hp)).below hb hB
      have hle := flat_take_le (ps := ps) (f := rNodes) (k + 1)
      rw [HNX.out, List.length_append, HT.out] at hle
      have hN2 := HN.out
      have HLF := Lib.hid (refLeft_any p B0 wr (by omega) hLp l0 l1)
      unfold riAgg at HLF
      clear hp hLp
      go_wp2_with (first
        | (go_at_call 100; refine HLF.out.mono ?_; rintro e w1 ⟨A2, n2, c2, rfl, hL2, b1⟩
           have hown1 := hown.below b1 (Nat.le_refl _)
           have hz1 := b1.size
           have hn2 := hL2.len)
        | (at_builtin; refine wpList_app Try.elInls rfl (.tmp 11) (.tmp 16) rfl (by exact rfl) hown1 rfl (hL2.reads (by omega)) (inl_one _) (by simp only [maxLen]; omega) (by omega) (by omega) ?_
           intro A3 c3 w3 hown3 ho3 hm3))
      have bb3 : Below w.heap.size w w3 := (hb.trans (b1.mono hbs)).trans (ho3.below (fun a ha => (hown1.lt ha).1) (by omega))
      go_roundw
      case rel =>
        refine ⟨k + 1, t + n2, A3, c3, by omega, Lib.hid (by rw [HNX.out, List.length_append, HT.out, hn2]), by go_num, rfl, ?_, bb3⟩
        rw [HNX.out]
        simpa [inlCells] using hown3
      case measure => simp [intOf]; omega
    · go_wp2_with fail
      go_ret
      have : k = m := by omega
      subst this
      have htk := HT.out
      rw [List.take_of_length_le (by rw [HL.out]; omega)] at hown htk
      exact ⟨A1, c1, by rw [htk]; rfl, by rw [htk]; exact hown, hb⟩

set_option maxHeartbeats 4000000 in
set_option maxRecDepth 100000 in
theorem refOpener_any (A : Option Addr) (m c : Nat) (l : List Pc) (closer : Nat) (b : Pc) (w : World) (hr : Reads w w.heap.size 9 A m (rlCells l)) (hb : l[closer]? = some b) (hm : m ≤ 1048576)
    (hfit : ∀ p ∈ l, PcFit p) (hbn : 0 ≤ b.n ∧ b.n ≤ 1048576) :
    Calls Try.prog 76 #[.slice A m c, .int .i64 closer] w fun e w' => e = .returned (.int .i64 (openAt l b closer)) ∧ Below w.heap.size w w' := by
  have hln : l.length = m := by have := hr.1; rw [flat_length _ 9 ri_len] at this; omega
  obtain ⟨ad, rfl, _, hcm, b0, b1, b2, b3, b4, b5, b6, b7, b8⟩ := hr.ri hb
  have HLN := Lib.hid hln
  clear hln
  obtain ⟨sb, bn, bo, bc, bA, bln, bcp, bl, bleft, bsh⟩ := b
  simp only at b0 b1 b2 b3 b4 b5 b6 b7 b8 hbn
  obtain ⟨h3, h4⟩ := hbn
  have hX : Blk (w.alloc (.cells #[.int .u8 (sb.toNat : Int), .int .i64 bleft, .int .i64 bn, .bool bo, .bool bc, .slice bA bln bcp, .string ⟨#[]⟩, .int .i64 0, .bool bsh] 56)) w.heap.size 56 #[.int .u8 (sb.toNat : Int), .int .i64 bleft, .int .i64 bn, .bool bo, .bool bc, .slice bA bln bcp, .string ⟨#[]⟩, .int .i64 0, .bool bsh] := Blk.new _ _ _
  have bX : Below w.heap.size w (w.alloc (.cells #[.int .u8 (sb.toNat : Int), .int .i64 bleft, .int .i64 bn, .bool bo, .bool bc, .slice bA bln bcp, .string ⟨#[]⟩, .int .i64 0, .bool bsh] 56)) := (Below.refl _ _).alloc (Nat.le_refl _) _
  have hgx : w.heap.size < (w.alloc (.cells #[.int .u8 (sb.toNat : Int), .int .i64 bleft, .int .i64 bn, .bool bo, .bool bc, .slice bA bln bcp, .string ⟨#[]⟩, .int .i64 0, .bool bsh] 56)).heap.size := by simp
  go_enter Try.func76, Try.ntmps76
  go_upto_region 3 with fail
  clear b0 b1 b2 b3 b4 b5 b6 b7 b8
  go_loopw [6] (fun at_ wr => ∃ k : Nat, k ≤ closer ∧ at_ = .int .i64 ((k : Int) - 1) ∧ Hid (openAt l ⟨sb, bn, bo, bc, bA, bln, bcp, bl, bleft, bsh⟩ k = openAt l ⟨sb, bn, bo, bc, bA, bln, bcp, bl, bleft, bsh⟩ closer) ∧
      Blk wr w.heap.size 56 #[.int .u8 (sb.toNat : Int), .int .i64 bleft, .int .i64 bn, .bool bo, .bool bc, .slice bA bln bcp, .string ⟨#[]⟩, .int .i64 0, .bool bsh] ∧ Below w.heap.size w wr ∧ w.heap.size < wr.heap.size) (fun at_ _ => (intOf at_ + 1).toNat)
  case atStart => exact ⟨closer, Nat.le_refl _, rfl, Lib.hid rfl, hX, bX, hgx⟩
  case round =>
    clear hX bX hgx
    obtain ⟨k, hk, rfl, HE, hX, hbw, hgx⟩ := hrel
    rcases k with _ | k
    · go_wp2_with fail
      go_ret
      exact ⟨by rw [← HE.out]; rfl, hbw⟩
    · obtain ⟨a, ha⟩ : ∃ a, l[k]? = some a := ⟨_, List.getElem?_eq_getElem (by rw [HLN.out]; omega)⟩
      obtain ⟨ad', hA', _, hkm, a0, a1, a2, a3, a4, a5, a6, a7, a8⟩ := (hr.below hbw).ri ha
      obtain rfl : ad = ad' := by injection hA'
      have hfa := hfit a (List.mem_of_getElem? ha)
      have hk1 : ((k + 1 : Nat) : Int) - 1 = k := by omega
      have q : decide ((k : Int) ≥ 0) = true := decide_eq_true (by omega)
      have q' : decide (0 ≤ (k : Int)) = true := decide_eq_true (by omega)
      obtain ⟨sa, an, ao, ac, aA, aln, acp, al, aleft, ash⟩ := a
      simp only at a0 a1 a2 a3 a4 a5 a6 a7 a8
      have HX : Hid (openAt l ⟨sb, bn, bo, bc, bA, bln, bcp, bl, bleft, bsh⟩ (k + 1) = if pairT ⟨sa, an, ao, ac, aA, aln, acp, al, aleft, ash⟩ ⟨sb, bn, bo, bc, bA, bln, bcp, bl, bleft, bsh⟩ then (k : Int) else openAt l ⟨sb, bn, bo, bc, bA, bln, bcp, bl, bleft, bsh⟩ k) := Lib.hid (by rw [openAt]; simp only [ha])
      have x0 : ∀ o, (wr.alloc o).cell? ⟨w.heap.size, 0, none⟩ = some (.int .u8 (sb.toNat : Int)) := fun o => (hX.alloc o).cell 0
      have x2 : ∀ o, (wr.alloc o).cell? ⟨w.heap.size, 2, none⟩ = some (.int .i64 bn) := fun o => (hX.alloc o).cell 2
      have x3 : ∀ o, (wr.alloc o).cell? ⟨w.heap.size, 3, none⟩ = some (.bool bo) := fun o => (hX.alloc o).cell 3
      have x4 : ∀ o, (wr.alloc o).cell? ⟨w.heap.size, 4, none⟩ = some (.bool bc) := fun o => (hX.alloc o).cell 4
      clear ha hA'
      rw [hk1]
      clear hk1
      have bal : ∀ o, Below w.heap.size w (wr.alloc o) := fun o => hbw.alloc (Nat.le_of_lt hgx) o
      by_cases hs : sa = sb
      · subst hs
        cases ao with
        | false =>
          have HP : Hid (openAt l ⟨sa, bn, bo, bc, bA, bln, bcp, bl, bleft, bsh⟩ k = openAt l ⟨sa, bn, bo, bc, bA, bln, bcp, bl, bleft, bsh⟩ closer) := Lib.hid (by rw [← HE.out, HX.out, if_neg (by simp [pairT])])
          go_wp2_with fail
          go_roundw
          case rel => exact ⟨k, by omega, by go_num, HP, hX.alloc _, bal _, by simp; omega⟩
          case measure => simp [intOf]
        | true =>
          by_cases hl : aleft < 1
          · have HP : Hid (openAt l ⟨sa, bn, bo, bc, bA, bln, bcp, bl, bleft, bsh⟩ k = openAt l ⟨sa, bn, bo, bc, bA, bln, bcp, bl, bleft, bsh⟩ closer) := Lib.hid (by rw [← HE.out, HX.out, if_neg (by simp [pairT, hl])])
            go_wp2_with fail
            go_roundw
            case rel => exact ⟨k, by omega, by go_num, HP, hX.alloc _, bal _, by simp; omega⟩
            case measure => simp [intOf]
          · have han : 0 ≤ an ∧ an ≤ 1048576 := by unfold PcFit at hfa; simp only at hfa; omega
            obtain ⟨h1, h2⟩ := han
            clear hfa
            have HP := Lib.hid (show pairT ⟨sa, an, true, ac, aA, aln, acp, al, aleft, ash⟩ ⟨sa, bn, bo, bc, bA, bln, bcp, bl, bleft, bsh⟩ = (!(ac || bo && bc) || !t3 (an + bn) || t3 an && t3 bn) from by simp [pairT, hl])
            have hw : IntKind.i64.wrap (an + bn) = an + bn := IntWalk.i64_in _ (by omega)
            obtain ⟨t, ht⟩ : ∃ t, t3 (an + bn) = t := ⟨_, rfl⟩
            obtain ⟨ta, hta⟩ : ∃ t, t3 an = !t := ⟨!t3 an, by simp⟩
            obtain ⟨tb, htb⟩ : ∃ t, t3 bn = !t := ⟨!t3 bn, by simp⟩
            rw [ht, hta, htb] at HP
            have HQ : Hid ((t = true → (an + bn) % 3 = 0) ∧ (t = false → ¬ (an + bn) % 3 = 0) ∧ (ta = true → ¬ an % 3 = 0) ∧ (ta = false → an % 3 = 0) ∧ (tb = true → ¬ bn % 3 = 0) ∧ (tb = false → bn % 3 = 0)) := Lib.hid (by
              have e : ∀ n : Int, 0 ≤ n → t3 n = (n % 3 == 0) := fun n hn => by unfold t3; rw [Int.tmod_eq_emod_of_nonneg hn]
              rw [e _ (by omega)] at ht hta htb
              refine ⟨fun h => ?_, fun h => ?_, fun h => ?_, fun h => ?_, fun h => ?_, fun h => ?_⟩
              · rw [h] at ht; simpa using ht
              · rw [h] at ht; simpa using ht
              · rw [h] at hta; simpa using hta
              · rw [h] at hta; simpa using hta
              · rw [h] at htb; simpa using htb
              · rw [h] at htb; simpa using htb)
            clear ht hta htb
            obtain ⟨bt, hbt⟩ : ∃ bt, bt = (ac || bo && bc) := ⟨_, rfl⟩
            rw [← hbt] at HP
            have HBT := Lib.hid hbt
            clear hbt
            obtain ⟨cn, hcn⟩ : ∃ cn, cn = (bt && t && (ta || tb)) := ⟨_, rfl⟩
            have HPN : Hid (pairT ⟨sa, an, true, ac, aA, aln, acp, al, aleft, ash⟩ ⟨sa, bn, bo, bc, bA, bln, bcp, bl, bleft, bsh⟩ = !cn) := Lib.hid (by rw [HP.out, hcn]; cases bt <;> cases t <;> cases ta <;> cases tb <;> rfl)
            have HCN := Lib.hid hcn
            clear hcn HP
            go_upto_region 7 with fail
            obtain ⟨wn, hwn⟩ : ∃ wn, wr.alloc (.cells #[.int .u8 (sa.toNat : Int), .int .i64 aleft, .int .i64 an, .bool true, .bool ac, .slice aA aln acp, .string ⟨#[]⟩, .int .i64 0, .bool ash] 56) = wn := ⟨_, rfl⟩
            have hA := Blk.new wr 56 #[.int .u8 (sa.toNat : Int), .int .i64 aleft, .int .i64 an, .bool true, .bool ac, .slice aA aln acp, .string ⟨#[]⟩, .int .i64 0, .bool ash]
            have hXn := hX.alloc (.cells #[.int .u8 (sa.toNat : Int), .int .i64 aleft, .int .i64 an, .bool true, .bool ac, .slice aA aln acp, .string ⟨#[]⟩, .int .i64 0, .bool ash] 56)
            have bn' := bal (.cells #[.int .u8 (sa.toNat : Int), .int .i64 aleft, .int .i64 an, .bool true, .bool ac, .slice aA aln acp, .string ⟨#[]⟩, .int .i64 0, .bool ash] 56)
            have hgn : w.heap.size < (wr.alloc (.cells #[.int .u8 (sa.toNat : Int), .int .i64 aleft, .int .i64 an, .bool true, .bool ac, .slice aA aln acp, .string ⟨#[]⟩, .int .i64 0, .bool ash] 56)).heap.size := by simp; omega
            rw [hwn] at hA hXn bn' hgn ⊢
            clear hwn x0 x2 x3 x4 bal hX hbw a0 a1 a2 a3 a4 a5 a6 a7 a8
            have y2 := hA.cell 2
            have y3 := hA.cell 3
            have y4 := hA.cell 4
            have x2 := hXn.cell 2
            have x3 := hXn.cell 3
            have x4 := hXn.cell 4
            simp only [List.getElem?_toArray, List.getElem?_cons_succ, List.getElem?_cons_zero] at y2 y3 y4 x2 x3 x4
            go_cut [8] (fun s8 wx => s8 = .bool bt ∧ wx = wn)
            case first =>
              have hbt := HBT.out
              cases ac
              · cases bo
                · have HB := Lib.hid hbt
                  clear hbt
                  go_wp2_with fail
                  go_meet
                  exact ⟨by rw [HB.out]; rfl, rfl⟩
                · have HB := Lib.hid hbt
                  clear hbt
                  go_wp2_with fail
                  go_meet
                  exact ⟨by rw [HB.out]; simp, rfl⟩
              · have HB := Lib.hid hbt
                clear hbt
                go_wp2_with fail
                go_meet
                exact ⟨by rw [HB.out]; rfl, rfl⟩
            case rest =>
            obtain ⟨rfl, hwW⟩ := hcut
            rw [hwW]
            clear hwW
            apply_assumption
            have hfive : (bt = false ∧ cn = false) ∨ (bt = true ∧ t = false ∧ cn = false) ∨ (bt = true ∧ t = true ∧ ta = true ∧ cn = true) ∨ (bt = true ∧ t = true ∧ ta = false ∧ tb = true ∧ cn = true) ∨ (bt = true ∧ t = true ∧ ta = false ∧ tb = false ∧ cn = false) := by
              have := HCN.out
              cases bt <;> cases t <;> cases ta <;> cases tb <;> simp_all
            have HGO : Hid (cn = true → openAt l ⟨sa, bn, bo, bc, bA, bln, bcp, bl, bleft, bsh⟩ k = openAt l ⟨sa, bn, bo, bc, bA, bln, bcp, bl, bleft, bsh⟩ closer) := Lib.hid fun h => by rw [← HE.out, HX.out, if_neg (by rw [HPN.out, h]; decide)]
            have HST : Hid (cn = false → (k : Int) = openAt l ⟨sa, bn, bo, bc, bA, bln, bcp, bl, bleft, bsh⟩ closer) := Lib.hid fun h => by rw [← HE.out, HX.out, if_pos (by rw [HPN.out, h]; rfl)]
            clear HPN HCN HE HX HBT
            rcases hfive with ⟨rfl, rfl⟩ | ⟨rfl, rfl, rfl⟩ | ⟨rfl, rfl, rfl, rfl⟩ | ⟨rfl, rfl, rfl, rfl, rfl⟩ | ⟨rfl, rfl, rfl, rfl, rfl⟩
            · have HV := Lib.hid (HST.out rfl)
              go_wp2_with fail
              go_ret
              exact ⟨by rw [← HV.out]; rfl, bn'⟩
            · have HV := Lib.hid (HST.out rfl)
              have r1 := HQ.out.2.1 rfl
              go_wp2_with fail
              go_ret
              exact ⟨by rw [← HV.out]; rfl, bn'⟩
            · have HV := Lib.hid (HGO.out rfl)
              have r1 := HQ.out.1 rfl
              have r2 := HQ.out.2.2.1 rfl
              go_wp2_with fail
              exact ⟨⟨k, by omega, by go_num, HV, hXn, bn', hgn⟩, by simp [intOf]⟩
            · have HV := Lib.hid (HGO.out rfl)
              have r1 := HQ.out.1 rfl
              have r2 := HQ.out.2.2.2.1 rfl
              have r3 := HQ.out.2.2.2.2.1 rfl
              have r4 : (bn % 3 != 0) = true := by simpa using r3
              clear r3
              go_wp2_with fail
              exact ⟨⟨k, by omega, by go_num, HV, hXn, bn', hgn⟩, by simp [intOf]⟩
            · have HV := Lib.hid (HST.out rfl)
              have r1 := HQ.out.1 rfl
              have r2 := HQ.out.2.2.2.1 rfl
              have r3 := HQ.out.2.2.2.2.2 rfl
              have r4 : (bn % 3 != 0) = false := by simpa using r3
              go_wp2_with fail
              go_ret
              exact ⟨by rw [← HV.out]; rfl, bn'⟩
      · have qq : ((sa.toNat : Int) != (sb.toNat : Int)) = true := by simpa using fun h => hs (UInt8.toNat_inj.1 (by omega))
        have HP : Hid (openAt l ⟨sb, bn, bo, bc, bA, bln, bcp, bl, bleft, bsh⟩ k = openAt l ⟨sb, bn, bo, bc, bA, bln, bcp, bl, bleft, bsh⟩ closer) := Lib.hid (by rw [← HE.out, HX.out, if_neg (by simp [pairT, hs])])
        go_wp2_with fail
        go_roundw
        case rel => exact ⟨k, by omega, by go_num, HP, hX.alloc _, bal _, by simp; omega⟩
        case measure => simp [intOf]
end Go.Proofs.Ytfdfpimilmhhoaa
