/-
  emph.Group: its contract.
-/
import Derived.Test.YtfdfpimilmhhoaaGroupLaws
import Derived.Deep.DeepCutAuto
namespace Go.Proofs.Ytfdfpimilmhhoaa
open Go.RowKit

theorem Try.infoPc : (Try.prog.info? 98).map (fun i => (i.zero, i.size, i.bytes)) = some (some (.agg #[.int .u8 0, .int .i64 0, .bool false, .bool false, .slice none 0 0, .int .i64 0, .bool false]), 7, 64) := by kernel_rfl
theorem Try.elPcs : Elem Try.prog 96 98 7 64 := Elem.mk' Try.underlying96 Try.infoPc rfl (by decide)

def itCells (p : Pc) : List Value := [.int .u8 (p.sign.toNat : Int), .int .i64 p.n, .bool p.opn, .bool p.cls, .slice p.A p.ln p.cp]
theorem it_len (p : Pc) : (itCells p).length = 5 := rfl

theorem Reads.it {w : World} {B m : Nat} {A : Option Addr} {l : List Pc} (h : Reads w B 5 A m (l.flatMap itCells)) {i : Nat} {p : Pc} (hp : l[i]? = some p) : ∃ ad, A = some ad ∧ ad.block < B ∧ i < m ∧
    w.cell? (ad.add (i * 5)) = some (.int .u8 (p.sign.toNat : Int)) ∧
    w.cell? ⟨(ad.add (i * 5)).block, (ad.add (i * 5)).off + 1, none⟩ = some (.int .i64 p.n) ∧
    w.cell? ⟨(ad.add (i * 5)).block, (ad.add (i * 5)).off + 2, none⟩ = some (.bool p.opn) ∧
    w.cell? ⟨(ad.add (i * 5)).block, (ad.add (i * 5)).off + 3, none⟩ = some (.bool p.cls) ∧
    w.cell? ⟨(ad.add (i * 5)).block, (ad.add (i * 5)).off + 4, none⟩ = some (.slice p.A p.ln p.cp) := by
  have hl : l.length = m := by have := h.1; rw [flat_length _ 5 it_len] at this; omega
  have hi : i < m := by rw [← hl]; exact (List.getElem?_eq_some_iff.1 hp).1
  obtain ⟨ad, rfl, hb, hc0, hcj⟩ := h.elem hi
  have g := fun j (hj : j < 5) => flat_get itCells 5 it_len l i j hj hp
  exact ⟨ad, rfl, hb, hi, hc0 _ (by have := g 0 (by omega); rw [Nat.add_zero] at this; rw [this]; rfl), hcj 1 _ (by omega) (by rw [g 1 (by omega)]; rfl), hcj 2 _ (by omega) (by rw [g 2 (by omega)]; rfl), hcj 3 _ (by omega) (by rw [g 3 (by omega)]; rfl),
    hcj 4 _ (by omega) (by rw [g 4 (by omega)]; rfl)⟩

theorem inl_one (l : List Inl) : ∀ u ∈ inlCells l, u.oneCell' = true := by
  intro u hu
  obtain ⟨x, _, hx⟩ := List.mem_flatMap.1 hu
  simp only [Inl.cells, List.mem_cons, List.not_mem_nil, or_false] at hx
  rcases hx with rfl | rfl | rfl | rfl | rfl <;> rfl
theorem pc_one (l : List Pc) : ∀ u ∈ pcCells l, u.oneCell' = true := by
  intro u hu
  obtain ⟨x, _, hx⟩ := List.mem_flatMap.1 hu
  simp only [Pc.cells, List.mem_cons, List.not_mem_nil, or_false] at hx
  rcases hx with rfl | rfl | rfl | rfl | rfl | rfl | rfl <;> rfl

theorem flat_drop {α : Type} (f : α → List Value) (sz : Nat) (hf : ∀ x, (f x).length = sz) (l : List α) (k : Nat) : (l.flatMap f).drop (k * sz) = (l.drop k).flatMap f := by
  induction l generalizing k with
  | nil => simp
  | cons y l ih =>
    rcases k with _ | k
    · simp
    · rw [List.flatMap_cons, show (k + 1) * sz = (f y).length + k * sz by rw [hf, Nat.add_mul, Nat.one_mul, Nat.add_comm], List.drop_append, Nat.add_sub_cancel_left, ih, List.drop_succ_cons, List.drop_eq_nil_of_le (Nat.le_add_right _ _), List.nil_append]
theorem flat_take {α : Type} (f : α → List Value) (sz : Nat) (hf : ∀ x, (f x).length = sz) (l : List α) (k : Nat) : (l.flatMap f).take (k * sz) = (l.take k).flatMap f := by
  induction l generalizing k with
  | nil => simp
  | cons y l ih =>
    rcases k with _ | k
    · simp
    · rw [List.flatMap_cons, show (k + 1) * sz = (f y).length + k * sz by rw [hf, Nat.add_mul, Nat.one_mul, Nat.add_comm], List.take_append, Nat.add_sub_cancel_left, ih, List.take_succ_cons, List.flatMap_cons, List.take_of_length_le (Nat.le_add_right _ _)]
theorem Own.cutAt {w : World} {base e size n c g : Nat} {xs : List Value} (h : Own w base e size (some ⟨g, 0, none⟩) n c xs) {k : Nat} (_ : k ≤ n) : Reads w w.heap.size size (some ⟨g, k * size, none⟩) (n - k) (xs.drop (k * size)) := by
  refine ⟨by rw [List.length_drop, h.len, Nat.sub_mul], fun _ => ⟨_, rfl, (h.lt rfl).2, fun j u hu => ?_⟩⟩
  rw [List.getElem?_drop] at hu
  have := h.cell hu
  unfold Addr.add
  split
  · rename_i h0; subst h0; exact this
  · exact this
theorem GInv_era {K T : Nat} {ps : List Pc} (h : GInv K T (ps.map era)) : GInv K T ps := by
  obtain ⟨h1, h2, h3, h4⟩ := h
  have e1 : lefts (ps.map era) = lefts ps := by unfold lefts; rw [List.map_map]; rfl
  have e2 : (ps.map era).flatMap pcNodes = ps.flatMap pcNodes := by rw [List.flatMap_map]; rfl
  rw [e1, List.length_map] at h2
  rw [nods, e2, e1] at h3
  rw [txts, e2] at h4
  exact ⟨fun p hp => h1 (era p) (List.mem_map_of_mem hp), h2, h3, h4⟩
theorem GInv_map_era {K T : Nat} {ps : List Pc} (h : GInv K T ps) : GInv K T (ps.map era) := by
  obtain ⟨h1, h2, h3, h4⟩ := h
  have e1 : lefts (ps.map era) = lefts ps := by unfold lefts; rw [List.map_map]; rfl
  have e2 : (ps.map era).flatMap pcNodes = ps.flatMap pcNodes := by rw [List.flatMap_map]; rfl
  refine ⟨fun p hp => ?_, by rw [e1, List.length_map]; exact h2, by rw [nods, e2, e1]; exact h3, by rw [txts, e2]; exact h4⟩
  obtain ⟨q, hq, rfl⟩ := List.mem_map.1 hp
  exact h1 q hq
/-- an append onto a full cut of a row: it grows -/
theorem wpList_appG {P : Program} {w : World} {ops : Array Oper} {rest : List Oper} {o : Oper} {a : Act} {Q : Exit → Act → World → Prop} {t e size bytes : Nat} (E : Elem P t e size bytes) (hgd : o.guard = none) (s x : Operand)
    (ho : o.op = .call { callee := .builtin .append, args := #[s, x], argTypes := #[t, t] })
    {base : Nat} {g n : Nat} {xs : List Value} (hs : a.eval s = .slice (some ⟨g, 0, none⟩) n n) (hxs : xs.length = n * size) (hcell : ∀ j u, xs[j]? = some u → w.cell? ⟨g, j, none⟩ = some u)
    {B : Option Addr} {m d : Nat} {news : List Value} (hx : a.eval x = .slice B m d) (hown : Own w base e size B m d news) (hm : 0 < m) (h1 : ∀ u ∈ news, u.oneCell' = true)
    (h63 : n + m ≤ maxLen) (hbytes : (n + m) * bytes ≤ 140737488355328)
    (h : ∀ A' c' w', Own w' w.heap.size e size A' (n + m) c' (xs ++ news) → w.grownBy w' none → wpList P ops Q rest (a.put o.dst (.slice A' (n + m) c')) w') : wpList P ops Q (o :: rest) a w := by
  obtain ⟨i, z, hi, hz, hsize, hby, hzs⟩ := E.info
  obtain ⟨g2, rfl, _, _⟩ := hown.some_ hm
  refine wpList_append_grows w hgd s x t ho e i z size bytes E.und hi hz hsize hby hzs E.pos (some ⟨g, 0, none⟩) n n xs hs (by simp) hxs (fun b hb j u hu => ?_) ⟨g2, 0, none⟩ m d news hx hown.len (fun j u hu => ?_) h1 (by omega) h63 hbytes (fun v' w' h2 h3 => ?_)
  · injection hb with hb; subst hb
    have := hcell j u hu
    unfold Addr.add
    split
    · rename_i h0; subst h0; exact this
    · simpa using this
  · have := hown.cell hu
    unfold Addr.add
    split
    · rename_i h0; subst h0; exact this
    · simpa using this
  · obtain ⟨A', c', rfl⟩ := slice_of_own h2
    exact h A' c' w' h2 h3

theorem take_set2 {ps : List Pc} {f i : Nat} {x y : Pc} (hf : f < i) (hi : i < ps.length) : ((ps.set f x).set i y).take (f + 1) = ps.take f ++ [x] := by
  rw [List.take_add_one, List.take_set, List.set_eq_of_length_le (by simp; omega), List.take_set, List.set_eq_of_length_le (by simp; omega), List.getElem?_set_ne (by omega), List.getElem?_set_self (by omega)]; rfl
theorem drop_set2 {ps : List Pc} {f i : Nat} {x y : Pc} (hf : f < i) (hi : i < ps.length) : ((ps.set f x).set i y).drop i = y :: ps.drop (i + 1) := by
  rw [List.drop_eq_getElem_cons (by simpa using hi), List.getElem_set_self, List.drop_set, if_pos (by omega), List.drop_set, if_pos (by omega)]

/-- what holds at each round's head -/
def GRel (its : List Pc) (w : World) (gk : Nat) (p i : Value) (wr : World) : Prop :=
  ∃ (ps : List Pc) (j : Nat) (A1 : Option Addr) (c1 fuel : Nat), gMeas ps j = gk ∧ p = .slice A1 ps.length c1 ∧ i = .int .i64 j ∧ j ≤ ps.length ∧ Own wr w.heap.size 98 7 A1 ps.length c1 (pcCells ps) ∧
    (∀ q ∈ ps, Live wr w.heap.size q.A q.ln q.cp q.l) ∧ GInv 1048576 1152921504606846976 ps ∧ gMeas ps j < fuel ∧ gRun fuel (ps.map era) j = gRun (gMeas its 0 + 1) (its.map era) 0 ∧ Below w.heap.size w wr

theorem gRun_step {ps : List Pc} {j fuel : Nat} {R : List Pc} (hj : j < ps.length) (hf : gMeas ps j < fuel) (h : gRun fuel (ps.map era) j = R) :
    ∃ f, fuel = f + 1 ∧ gRun f ((gStep ps j).1.map era) (gStep ps j).2 = R := by
  obtain ⟨f, rfl⟩ : ∃ f, fuel = f + 1 := ⟨fuel - 1, by omega⟩
  refine ⟨f, rfl, ?_⟩
  rw [gRun, if_pos (by simpa using hj), gStep_era] at h
  exact h

set_option maxHeartbeats 8000000 in
set_option maxRecDepth 1000000 in
theorem group_any (A : Option Addr) (m c : Nat) (its : List Pc) (w : World) (hr : Reads w w.heap.size 5 A m (its.flatMap itCells)) (hL : ∀ p ∈ its, Reads w w.heap.size 5 p.A p.ln (inlCells p.l))
    (hst : ∀ p ∈ its, p.left = max p.n 0 ∧ p.shut = false) (hinv : GInv 1048576 1152921504606846976 its) :
    Calls Try.prog 21 #[.slice A m c] w fun e w' => ∃ A' c', e = .returned (.slice A' (groupT its).length c') ∧ Own w' w.heap.size 95 5 A' (groupT its).length c' (inlCells (groupT its)) ∧ Below w.heap.size w w' := by
  have hlen : its.length = m := by have := hr.1; rw [flat_length _ 5 it_len] at this; omega
  have hm : m ≤ 1048576 := by have := hinv.2.1; omega
  have HL := Lib.hid hlen
  have HI := Lib.hid hinv
  clear hlen hinv
  go_enter Try.func21, Try.ntmps21
  go_wp2_with fail
  go_loopw [3, 19] (fun out i wr => ∃ (k : Nat) (A1 : Option Addr) (c1 : Nat), k ≤ m ∧ i = .int .i64 k ∧ out = .slice A1 k c1 ∧ Own wr w.heap.size 98 7 A1 k c1 (pcCells (its.take k)) ∧ Below w.heap.size w wr)
    (fun _ i _ => m - (intOf i).toNat)
  case atStart => exact ⟨0, none, 0, Nat.zero_le _, rfl, rfl, Own.nil _ _ _ _, Below.refl _ _⟩
  case round =>
    obtain ⟨k, A1, c1, hk, rfl, rfl, hown, hb⟩ := hrel
    by_cases hlt : k < m
    · obtain ⟨x, hx⟩ : ∃ x, its[k]? = some x := ⟨_, List.getElem?_eq_getElem (by rw [HL.out]; omega)⟩
      obtain ⟨s1, s2⟩ := hst x (List.mem_of_getElem? hx)
      obtain ⟨ad, rfl, _, _, g0, g1, g2, g3, g4⟩ := (hr.below hb).it hx
      have hbs := hb.size
      have HK : Hid (its.take (k + 1) = its.take k ++ [x]) := Lib.hid (by rw [List.take_add_one, hx]; rfl)
      have S1 := Lib.hid s1
      have S2 := Lib.hid s2
      clear hx s1 s2
      generalize its.take k = kl at *
      go_wp2_with (at_builtin; refine wpList_app1 Try.elPcs rfl (.tmp 23) (.tmp 29) rfl rfl (by exact (hown.alloc _).alloc _) rfl (Blk.new' _ _ _ _ (by simp)) rfl (by simp [Value.oneCell']) (by simp only [maxLen]; omega) (by omega) (by simp; omega) ?_
                   intro A1' c1' w1 hown1 ho1 hm1)
      go_roundw
      case rel =>
        refine ⟨k + 1, A1', c1', by omega, by go_num, rfl, ?_, hb.trans (ho1.of_alloc.of_alloc.below (fun a ha => (hown.lt ha).1) hbs)⟩
        rw [HK.out]
        have e : pcCells (kl ++ [x]) = pcCells kl ++ [.int .u8 (x.sign.toNat : Int), .int .i64 x.n, .bool x.opn, .bool x.cls, .slice x.A x.ln x.cp, .int .i64 (max x.n 0), .bool false] := by
          rw [pcCells, List.flatMap_append, List.flatMap_singleton, Pc.cells, S1.out, S2.out]
        rw [e]
        exact hown1
      case measure => simp [intOf]; omega
    · have hkm : k = m := by omega
      subst hkm
      rw [List.take_of_length_le (by rw [HL.out]; omega)] at hown
      clear hlt hk
      have hlive : ∀ q ∈ its, Live wr w.heap.size q.A q.ln q.cp q.l := fun q hq => .inl ((hL q hq).below hb)
      have hrel0 : GRel its w (gMeas its 0) (.slice A1 k c1) (.int .i64 0) wr := ⟨its, 0, A1, c1, gMeas its 0 + 1, rfl, by rw [HL.out], rfl, Nat.zero_le _, by rw [HL.out]; exact hown, hlive, HI.out, by omega, rfl, hb⟩
      have HR := Lib.hid hrel0
      clear hrel0 hlive hown hb hr hL hst
      go_wp2_with fail
      go_loopg [6, 3] (gMeas its 0) (fun gk i p wr => GRel its w gk p i wr)
      case atStart => exact HR.out
      case round =>
        clear HR
        obtain ⟨ps, j, A1, c1, fuel, rfl, rfl, rfl, hj, hown, hlive, hinv, hfuel, hrun, hb⟩ := hrel
        have HV := Lib.hid hlive
        have HI2 := Lib.hid hinv
        have HR := Lib.hid hrun
        have hpl : ps.length ≤ 1048576 := by have := hinv.2.1; omega
        clear hlive hinv hrun
        by_cases hlt : j < ps.length
        · obtain ⟨b, hbj⟩ : ∃ b, ps[j]? = some b := ⟨_, List.getElem?_eq_getElem hlt⟩
          obtain ⟨g, rfl, hgb, _⟩ := hown.some_ (by omega)
          have tt := fun q (hq : q < 7) => flat_get Pc.cells 7 pc_len ps j q hq hbj
          have t0 := hown.cell (j := j * 7) (u := .int .u8 (b.sign.toNat : Int)) (by have := tt 0 (by omega); rw [Nat.add_zero] at this; rw [this]; rfl)
          have t3 := hown.cell (j := j * 7 + 3) (u := .bool b.cls) (by rw [tt 3 (by omega)]; rfl)
          have t5 := hown.cell (j := j * 7 + 5) (u := .int .i64 b.left) (by rw [tt 5 (by omega)]; rfl)
          have t6 := hown.cell (j := j * 7 + 6) (u := .bool b.shut) (by rw [tt 6 (by omega)]; rfl)
          clear tt
          by_cases hsk : skips b
          · have hst : gStep ps j = (ps, j + 1) := by unfold gStep; rw [hbj]; simp only; rw [if_pos hsk]
            obtain ⟨f, hf1, hf2⟩ := gRun_step hlt hfuel HR.out
            rw [hst] at hf2
            have HF := Lib.hid hf2
            have hlt2 : gMeas ps (j + 1) < gMeas ps j := by unfold gMeas; omega
            have hff : gMeas ps (j + 1) < f := by omega
            clear hf2 hst hf1 hfuel hlt2
            have hcs : (((b.sign.toNat : Int) == 0) = true) ∨ ((((b.sign.toNat : Int) == 0) = false) ∧ b.cls = false) ∨ ((((b.sign.toNat : Int) == 0) = false) ∧ b.cls = true ∧ b.shut = true) ∨ ((((b.sign.toNat : Int) == 0) = false) ∧ b.cls = true ∧ b.shut = false ∧ (b.left == 0) = true) := by
              by_cases h0 : b.sign = 0
              · exact .inl (by rw [h0]; rfl)
              · have h0' : ((b.sign.toNat : Int) == 0) = false := beq_eq_false_iff_ne.2 (by have := u8_ne h0; omega)
                unfold skips at hsk
                cases hc : b.cls
                · exact .inr (.inl ⟨h0', rfl⟩)
                · cases hs : b.shut
                  · refine .inr (.inr (.inr ⟨h0', rfl, rfl, ?_⟩))
                    simp [h0, hc, hs] at hsk
                    simpa using hsk
                  · exact .inr (.inr (.inl ⟨h0', rfl, rfl⟩))
            have HB := Lib.hid hbj
            clear hsk hbj
            generalize b.cls = bcls at *
            generalize b.shut = bshut at *
            rcases hcs with q0 | ⟨q0, rfl⟩ | ⟨q0, rfl, rfl⟩ | ⟨q0, rfl, rfl, q1⟩
            all_goals
              go_wp2_with fail
              go_roundg (gMeas ps (j + 1))
              case measure => unfold gMeas; omega
              case rel => exact ⟨ps, j + 1, some ⟨g, 0, none⟩, c1, f, rfl, rfl, by go_num, by omega, hown, HV.out, HI2.out, hff, HF.out, hb⟩
          · have hcs : ((b.sign.toNat : Int) == 0) = false ∧ b.cls = true ∧ b.shut = false ∧ (b.left == 0) = false := by
              unfold skips at hsk
              simp only [not_or] at hsk
              obtain ⟨h0, h1, h2, h3⟩ := hsk
              exact ⟨beq_eq_false_iff_ne.2 (by have := u8_ne h0; omega), by simpa using h1, by simpa using h2, beq_eq_false_iff_ne.2 h3⟩
            obtain ⟨q0, q1, q2, q3⟩ := hcs
            rw [q1] at t3
            rw [q2] at t6
            have hbok := (HI2.out.1 b (List.mem_of_getElem? hbj))
            have hbl : 1 ≤ b.left := by
              have := hbok.1
              unfold skips at hsk
              simp only [not_or] at hsk
              omega
            have hbn : 0 ≤ b.n ∧ b.n ≤ 1048576 := by rcases hbok.2.2 with h | h; omega; exact h
            have hfits : ∀ p ∈ ps, PcFit p := fun p hp => (HI2.out.1 p hp).2.2
            have hwsz := hb.size
            go_wp2_with fail
            refine (opener_any (some ⟨g, 0, none⟩) ps.length c1 ps j b _ hown.reads hbj hpl hfits hbn).mono ?_
            rintro e w1 ⟨rfl, b1⟩
            have hown1 := hown.below b1 (Nat.le_refl _)
            have hb1 := hb.trans (b1.mono hwsz)
            have HV1 := Lib.hid (fun q hq => (HV.out q hq).below b1 hwsz : ∀ q ∈ ps, Live w1 w.heap.size q.A q.ln q.cp q.l)
            have hwsz1 := hb1.size
            clear HV hown hb b1 t0 t3 t5 t6 hwsz hfits
            obtain ⟨f, hf1, hf2⟩ := gRun_step hlt hfuel HR.out
            have hmeas := gStep_meas hlt (fun p hp => (HI2.out.1 p hp).1)
            have hinv2 := gStep_inv HI2.out hlt
            have tt := fun q (hq : q < 7) => flat_get Pc.cells 7 pc_len ps j q hq hbj
            by_cases ho : openAt ps b j < 0
            · have hst : gStep ps j = (ps.set j { b with shut := true }, j + 1) := by unfold gStep; rw [hbj]; simp only; rw [if_neg hsk, if_pos ho]
              rw [hst] at hf2 hmeas hinv2
              simp only at hf2 hmeas hinv2
              have HF := Lib.hid hf2
              have HN := Lib.hid hinv2
              have t6 := hown1.cell (j := j * 7 + 6) (u := .bool b.shut) (by rw [tt 6 (by omega)]; rfl)
              have f6 := hown1.frozen (j * 7 + 6)
              have hown2 := hown1.stored (j * 7 + 6) (.bool true)
              rw [flat_set Pc.cells 7 pc_len ps j 6 (by omega) hbj (x' := { b with shut := true }) rfl] at hown2
              have HV2 : Hid (∀ q ∈ ps.set j { b with shut := true }, Live (w1.setCell ⟨g, j * 7 + 6, none⟩ (.bool true)) w.heap.size q.A q.ln q.cp q.l) := Lib.hid (fun q hq => by
                have : Live w1 w.heap.size q.A q.ln q.cp q.l := by
                  rcases List.mem_or_eq_of_mem_set hq with hq | rfl
                  · exact HV1.out q hq
                  · exact HV1.out b (List.mem_of_getElem? hbj)
                exact this.only (only_setCell w1 g (j * 7 + 6) (.bool true)) hown1 (by decide) hwsz1)
              have hb2 := hb1.setCell (p := ⟨g, j * 7 + 6, none⟩) hgb (.bool true)
              have hff : gMeas (ps.set j { b with shut := true }) (j + 1) < f := by omega
              have HM := Lib.hid hmeas
              clear hf1 hf2 hst hinv2 hmeas tt hfuel hbj hsk hown1
              generalize openAt ps b j = o at *
              go_wp2_with fail
              go_roundg (gMeas (ps.set j { b with shut := true }) (j + 1))
              case measure => exact HM.out
              case rel => exact ⟨_, j + 1, some ⟨g, 0, none⟩, c1, f, rfl, by simp, by go_num, by simp; omega, by simpa using hown2, HV2.out, HN.out, hff, HF.out, hb2⟩
            · obtain ⟨a, ha, hpr⟩ := openAt_some (by omega : 0 ≤ openAt ps b j)
              have hol := (openAt_lt ps b j).1
              obtain ⟨fr, hfr⟩ : ∃ fr : Nat, openAt ps b j = fr := ⟨(openAt ps b j).toNat, by omega⟩
              have hst : gStep ps j = (ps.take fr ++ [lessPc a (gN a b), madePc (gMade ps fr j a b)] ++ lessPc b (gN a b) :: ps.drop (j + 1), fr + 2) := by
                unfold gStep
                rw [hbj]
                simp only
                rw [if_neg hsk, if_neg ho, hfr]
                simp only [Int.toNat_natCast]
                rw [hfr, Int.toNat_natCast] at ha
                rw [ha]
              rw [hst] at hf2 hmeas hinv2
              rw [hfr, Int.toNat_natCast] at ha
              rw [hfr] at hol ho ⊢
              simp only at hf2 hmeas hinv2
              have hfj : fr < j := by omega
              have hal := pairT_left hpr
              have HF := Lib.hid hf2
              have HN := Lib.hid hinv2
              have HM := Lib.hid hmeas
              have HA := Lib.hid ha
              have HB := Lib.hid hbj
              have ta := fun q (hq : q < 7) => flat_get Pc.cells 7 pc_len ps fr q hq ha
              have t5a := hown1.cell (j := fr * 7 + 5) (u := .int .i64 a.left) (by rw [ta 5 (by omega)]; rfl)
              have t5b := hown1.cell (j := j * 7 + 5) (u := .int .i64 b.left) (by rw [tt 5 (by omega)]; rfl)
              have hff0 : gMeas ps j ≤ f := by omega
              clear ha hbj hf2 hinv2 hmeas hst hpr ta tt hsk hfr hf1 hfuel
              go_upto_region 16 with fail
              go_cut [93] (fun s93 wx => s93 = .bool (two a b) ∧ wx = w1)
              case first =>
                by_cases e1 : 1 < a.left
                · have q1 : decide (1 < a.left) = true := decide_eq_true e1
                  by_cases e2 : 1 < b.left
                  · have q2 : decide (1 < b.left) = true := decide_eq_true e2
                    go_wp2_with fail
                    go_meet
                    exact ⟨by rw [two, q1, q2]; rfl, rfl⟩
                  · have q2 : decide (1 < b.left) = false := decide_eq_false e2
                    go_wp2_with fail
                    go_meet
                    exact ⟨by rw [two, q1, q2]; rfl, rfl⟩
                · have q1 : decide (1 < a.left) = false := decide_eq_false e1
                  go_wp2_with fail
                  go_meet
                  exact ⟨by rw [two, q1]; rfl, rfl⟩
              case rest =>
                obtain ⟨rfl, rfl⟩ := hcut
                generalize wc = w2 at *
                go_upto_if 93 with fail
                go_cut [8, 9] (fun s8 s9 wx => s8 = .int .i64 (gKind a b) ∧ s9 = .int .i64 (gN a b) ∧ wx = w2)
                case first =>
                  go_wp2_with fail
                  · go_meet
                    exact ⟨by rw [gKind, if_pos (by assumption)], by rw [gN, if_pos (by assumption)], rfl⟩
                  · go_meet
                    exact ⟨by rw [gKind, if_neg (by simp [*])], by rw [gN, if_neg (by simp [*])], rfl⟩
                case rest =>
                  obtain ⟨rfl, rfl, rfl⟩ := hcut
                  generalize wc = w1 at *
                  obtain ⟨gK, hgK⟩ : ∃ k, gKind a b = k := ⟨_, rfl⟩
                  obtain ⟨gNn, hgN⟩ : ∃ k, gN a b = k := ⟨_, rfl⟩
                  have HG3 := Lib.hid hgK
                  have HG4 := Lib.hid hgN
                  rw [hgK, hgN]
                  clear hgK hgN
                  have hc1 := hown1.cap
                  have e1 : IntKind.i64.wrap ((fr : Int) + 1) = ((fr + 1 : Nat) : Int) := IntWalk.i64_in _ (by omega) |>.trans (by omega)
                  clear t5a t5b
                  go_wp2_with fail
                  go_loopw [10, 103] (fun made i w2 => ∃ (k : Nat) (A2 : Option Addr) (n2 c2 : Nat), k ≤ j - (fr + 1) ∧ i = .int .i64 k ∧ made = .slice A2 n2 c2 ∧
                      Own w2 w1.heap.size 95 5 A2 n2 c2 (inlCells (⟨gK, 0, ⟨#[]⟩, ⟨#[]⟩, ⟨#[]⟩⟩ :: ((ps.drop (fr + 1)).take k).flatMap (fun p => deepT (pcNodes p)))) ∧ Below w1.heap.size w1 w2)
                    (fun _ i _ => j - (fr + 1) - (intOf i).toNat)
                  case atStart =>
                    refine ⟨0, _, 1, 1, Nat.zero_le _, rfl, rfl, ?_, (Below.refl _ _).alloc (Nat.le_refl _) _⟩
                    exact World.ownsRow_lit w1 #[.int .i64 gK, .int .i64 0, .string ⟨#[]⟩, .string ⟨#[]⟩, .string ⟨#[]⟩] 1 (Nat.le_refl _) (by decide) rfl
                  case round =>
                    obtain ⟨k3, A2, n2, c2, hk3, rfl, rfl, hown3, hb3⟩ := hrel
                    have hwz3 := hb3.size
                    by_cases hlt3 : k3 < j - (fr + 1)
                    · obtain ⟨x, hx⟩ : ∃ x, ps[fr + 1 + k3]? = some x := ⟨_, List.getElem?_eq_getElem (by omega)⟩
                      have hxm := List.mem_of_getElem? hx
                      have hownA := hown1.below hb3 (Nat.le_refl _)
                      have gx := fun q (hq : q < 7) => flat_get Pc.cells 7 pc_len ps (fr + 1 + k3) q hq hx
                      have g0 := hownA.cell (j := (fr + 1) * 7 + k3 * 7) (u := .int .u8 (x.sign.toNat : Int)) (by rw [show (fr + 1) * 7 + k3 * 7 = (fr + 1 + k3) * 7 + 0 by omega, gx 0 (by omega)]; rfl)
                      have g1 := hownA.cell (j := (fr + 1) * 7 + k3 * 7 + 1) (u := .int .i64 x.n) (by rw [show (fr + 1) * 7 + k3 * 7 + 1 = (fr + 1 + k3) * 7 + 1 by omega, gx 1 (by omega)]; rfl)
                      have g2 := hownA.cell (j := (fr + 1) * 7 + k3 * 7 + 2) (u := .bool x.opn) (by rw [show (fr + 1) * 7 + k3 * 7 + 2 = (fr + 1 + k3) * 7 + 2 by omega, gx 2 (by omega)]; rfl)
                      have g3 := hownA.cell (j := (fr + 1) * 7 + k3 * 7 + 3) (u := .bool x.cls) (by rw [show (fr + 1) * 7 + k3 * 7 + 3 = (fr + 1 + k3) * 7 + 3 by omega, gx 3 (by omega)]; rfl)
                      have g4 := hownA.cell (j := (fr + 1) * 7 + k3 * 7 + 4) (u := .slice x.A x.ln x.cp) (by rw [show (fr + 1) * 7 + k3 * 7 + 4 = (fr + 1 + k3) * 7 + 4 by omega, gx 4 (by omega)]; rfl)
                      have g5 := hownA.cell (j := (fr + 1) * 7 + k3 * 7 + 5) (u := .int .i64 x.left) (by rw [show (fr + 1) * 7 + k3 * 7 + 5 = (fr + 1 + k3) * 7 + 5 by omega, gx 5 (by omega)]; rfl)
                      have g6 := hownA.cell (j := (fr + 1) * 7 + k3 * 7 + 6) (u := .bool x.shut) (by rw [show (fr + 1) * 7 + k3 * 7 + 6 = (fr + 1 + k3) * 7 + 6 by omega, gx 6 (by omega)]; rfl)
                      have hLx := (HV1.out x hxm).below hb3 hwsz1
                      have hlf : x.left ≤ 1048576 := (HI2.out.1 x hxm).2.1
                      have hdx : (ps.drop (fr + 1))[k3]? = some x := by rw [List.getElem?_drop, hx]
                      have HK : Hid ((ps.drop (fr + 1)).take (k3 + 1) = (ps.drop (fr + 1)).take k3 ++ [x]) := Lib.hid (by rw [List.take_add_one, hdx]; rfl)
                      have hn2 : n2 = 1 + nods ((ps.drop (fr + 1)).take k3) := by
                        have := hown3.len
                        rw [flat_length _ 5 inl_len, List.length_cons, between_len] at this
                        omega
                      have hle : n2 + (pcNodes x).length ≤ 1048577 := by
                        have h1 : nods ps ≤ 1048576 := by have := HI2.out.2.2.1; omega
                        have h2 : nods ((ps.drop (fr + 1)).take (k3 + 1)) ≤ nods (ps.drop (fr + 1)) := by
                          conv => rhs; rw [← List.take_append_drop (k3 + 1) (ps.drop (fr + 1)), nods_append]
                          omega
                        have h3 : nods (ps.drop (fr + 1)) ≤ nods ps := by
                          conv => rhs; rw [← List.take_append_drop (fr + 1) ps, nods_append]
                          omega
                        have h4 : nods ([] : List Pc) = 0 := rfl
                        rw [HK.out, nods_append, nods_cons] at h2
                        omega
                      clear hx hxm gx hdx hn2 hownA
                      generalize (ps.drop (fr + 1)).take k3 = kl at *
                      have hbs3 : w.heap.size ≤ wr.heap.size := by omega
                      go_wp2_with (first
                        | (go_at_call 73
                           refine (nodes_any x w.heap.size _ (by simp; omega) (hLx.alloc hbs3 _) hlf).mono ?_
                           rintro e w3 ⟨A3, n3, c3, rfl, hL3, b3⟩
                           have hn3 : (pcNodes x).length = n3 := hL3.len
                           have hown4 := (hown3.alloc (.cells #[.int .u8 (x.sign.toNat : Int), .int .i64 x.n, .bool x.opn, .bool x.cls, .slice x.A x.ln x.cp, .int .i64 x.left, .bool x.shut] 98)).below b3 (Nat.le_refl _)
                           have hr3 := hL3.reads (by have := b3.size; simp at this; omega)
                           have hb4 : Below w1.heap.size w1 w3 := (hb3.alloc (by omega) _).trans (b3.mono (by simp; omega)))
                        | (go_at_call 72
                           refine (deeper_any A3 n3 c3 _ _ hr3 (by omega)).mono ?_
                           rintro e w4 ⟨A4, c4, rfl, hownD, bD⟩
                           have hown5 := hown4.below bD (Nat.le_refl _)
                           have hb5 := hb4.trans (bD.mono hb4.size)
                           have hr4 := hownD.reads)
                        | (at_builtin; refine wpList_app Try.elInls rfl (.tmp 107) (.tmp 110) rfl rfl hown5 rfl hr4 (inl_one _) (by simp only [maxLen]; omega) (by omega) (by have := hb5.size; omega) ?_
                           intro A' c' w5 hown6 ho6 hm6))
                      go_roundw
                      case rel =>
                        refine ⟨k3 + 1, A', n2 + n3, c', by omega, by go_num, rfl, ?_, hb5.trans (ho6.below (fun a ha => (hown5.lt ha).1) hb5.size)⟩
                        rw [HK.out, List.flatMap_append, List.flatMap_singleton, ← List.cons_append, inlCells, List.flatMap_append]
                        exact hown6
                      case measure => simp [intOf]; omega
                    · have hkk : k3 = j - (fr + 1) := by omega
                      subst hkk
                      have hmade : ⟨gK, 0, ⟨#[]⟩, ⟨#[]⟩, ⟨#[]⟩⟩ :: ((ps.drop (fr + 1)).take (j - (fr + 1))).flatMap (fun p => deepT (pcNodes p)) = gMade ps fr j a b := by
                        rw [gMade, HG3.out, List.drop_take]
                      rw [hmade] at hown3
                      have hownA := hown1.below hb3 (Nat.le_refl _)
                      have HVA := Lib.hid (fun q hq => (HV1.out q hq).below hb3 hwsz1 : ∀ q ∈ ps, Live wr w.heap.size q.A q.ln q.cp q.l)
                      have hbA := hb1.trans (hb3.mono hwsz1)
                      have hownM := hown3.base_le hwsz1
                      have haok := HI2.out.1 a (List.mem_of_getElem? HA.out)
                      have hal2 := haok.2.1
                      have hbl2 := (HI2.out.1 b (List.mem_of_getElem? HB.out)).2.1
                      have hgn := gN_le hal hbl
                      rw [HG4.out] at hgn
                      obtain ⟨n1, n2', n3', n4'⟩ := hgn
                      clear hown3 hmade HV1 hown1 hb1 hb3 hwz3
                      have s1 : IntKind.i64.wrap (a.left - gNn) = a.left - gNn := IntWalk.i64_in _ (by omega)
                      have s2 : IntKind.i64.wrap (b.left - gNn) = b.left - gNn := IntWalk.i64_in _ (by omega)
                      have ta := fun q (hq : q < 7) => flat_get Pc.cells 7 pc_len ps fr q hq HA.out
                      have t5a := hownA.cell (j := fr * 7 + 5) (u := .int .i64 a.left) (by rw [ta 5 (by omega)]; rfl)
                      have f5a := hownA.frozen (fr * 7 + 5)
                      have hownB := hownA.stored (fr * 7 + 5) (.int .i64 (a.left - gNn))
                      rw [flat_set Pc.cells 7 pc_len ps fr 5 (by omega) HA.out (x' := lessPc a gNn) (v := .int .i64 (a.left - gNn)) rfl] at hownB
                      have hbj2 : (ps.set fr (lessPc a gNn))[j]? = some b := by rw [List.getElem?_set_ne (by omega)]; exact HB.out
                      have tb := fun q (hq : q < 7) => flat_get Pc.cells 7 pc_len (ps.set fr (lessPc a gNn)) j q hq hbj2
                      have t5b := hownB.cell (j := j * 7 + 5) (u := .int .i64 b.left) (by rw [tb 5 (by omega)]; rfl)
                      have f5b := hownB.frozen (j * 7 + 5)
                      have hownC := hownB.stored (j * 7 + 5) (.int .i64 (b.left - gNn))
                      rw [flat_set Pc.cells 7 pc_len _ j 5 (by omega) hbj2 (x' := lessPc b gNn) (v := .int .i64 (b.left - gNn)) rfl] at hownC
                      clear ta tb
                      go_upto_region 26 with fail
                      have hwszA := hbA.size
                      have hbB := hbA.setCell (p := ⟨g, fr * 7 + 5, none⟩) hgb (.int .i64 (a.left - gNn))
                      have hbC := hbB.setCell (p := ⟨g, j * 7 + 5, none⟩) hgb (.int .i64 (b.left - gNn))
                      have HVC := Lib.hid (fun q hq => ((HVA.out q hq).only (only_setCell wr g (fr * 7 + 5) (.int .i64 (a.left - gNn))) hownA (by decide) hwszA).only (only_setCell _ g (j * 7 + 5) (.int .i64 (b.left - gNn))) hownB (by decide) hbB.size : ∀ q ∈ ps, Live ((wr.setCell ⟨g, fr * 7 + 5, none⟩ (.int .i64 (a.left - gNn))).setCell ⟨g, j * 7 + 5, none⟩ (.int .i64 (b.left - gNn))) w.heap.size q.A q.ln q.cp q.l)
                      have hownM1 := hownM.only (only_setCell wr g (fr * 7 + 5) (.int .i64 (a.left - gNn))) (hownM.sep_ne hownA (by decide))
                      have hownM2 := hownM1.only (only_setCell _ g (j * 7 + 5) (.int .i64 (b.left - gNn))) (hownM1.sep_ne hownB (by decide))
                      clear hownA HVA hbA hownM hownM1 hownB t5a t5b f5a f5b hbB
                      generalize (wr.setCell ⟨g, fr * 7 + 5, none⟩ (.int .i64 (a.left - gNn))).setCell ⟨g, j * 7 + 5, none⟩ (.int .i64 (b.left - gNn)) = w7 at *
                      have hsrc := hownC.cutAt (k := j) (by omega)
                      have hz7 := hbC.size
                      have hlit : Own (w7.alloc (.cells #[.int .u8 0, .int .i64 0, .bool false, .bool false, .slice A2 n2 c2, .int .i64 0, .bool false] 98)) w7.heap.size 98 7 (some ⟨w7.heap.size, 0, none⟩) 1 1 [.int .u8 0, .int .i64 0, .bool false, .bool false, .slice A2 n2 c2, .int .i64 0, .bool false] :=
                        World.ownsRow_lit w7 #[.int .u8 0, .int .i64 0, .bool false, .bool false, .slice A2 n2 c2, .int .i64 0, .bool false] 1 (Nat.le_refl _) (by decide) rfl
                      have e2 : IntKind.i64.wrap ((fr : Int) + 2) = ((fr + 2 : Nat) : Int) := IntWalk.i64_in _ (by omega) |>.trans (by omega)
                      go_upto_region 27 with (at_builtin; go_loud (refine wpList_app Try.elPcs rfl (.tmp 134) (.tmp 137) rfl rfl hlit rfl (hsrc.alloc (Nat.le_refl _) _) (fun u hu => pc_one _ u (List.mem_of_mem_drop hu)) (by simp only [maxLen]; omega) (by omega) (by simp) ?_; intro A8 c8 w8 hown8 ho8 hm8))
                      have hb8 : Below w7.heap.size w7 w8 := ho8.of_alloc.below (fun a ha => by injection ha with ha; subst ha; exact Nat.le_refl _) (Nat.le_refl _)
                      have htk := (hownC.below hb8 (Nat.le_refl _)).take (m := fr + 1) (by omega)
                      go_upto_region 28 with (at_builtin; go_loud (refine wpList_appG Try.elPcs rfl (.tmp 144) (.tmp 145) rfl rfl htk.len (fun j u hu => htk.cell hu) rfl hown8 (by omega) (fun u hu => by
                                                  rcases List.mem_append.1 hu with hu | hu
                                                  · simp only [List.mem_cons, List.not_mem_nil, or_false] at hu
                                                    rcases hu with rfl | rfl | rfl | rfl | rfl | rfl | rfl <;> rfl
                                                  · exact pc_one _ u (List.mem_of_mem_drop hu)) (by simp only [maxLen]; omega) (by omega) ?_; intro A9 c9 w9 hown9 hg9))
                      have hb9 : Below w8.heap.size w8 w9 := (Below.refl _ _).grown hg9 (Nat.le_refl _) (fun k hk => by cases hk)
                      have hb79 := hb8.trans (hb9.mono hb8.size)
                      have hz9 := hb79.size
                      have HV9 := Lib.hid (fun q hq => (HVC.out q hq).below hb79 hz7 : ∀ q ∈ ps, Live w9 w.heap.size q.A q.ln q.cp q.l)
                      have hM9 : Live w9 w.heap.size A2 n2 c2 (gMade ps fr j a b) := .inr (hownM2.below hb79 (Nat.le_refl _))
                      have hb10 := hbC.trans (hb79.mono hz7)
                      obtain ⟨ps', hps⟩ : ∃ ps' : List Pc, ps' = ps.take fr ++ [lessPc a gNn, { madePc (gMade ps fr j a b) with A := A2, ln := n2, cp := c2 }] ++ lessPc b gNn :: ps.drop (j + 1) := ⟨_, rfl⟩
                      have hera : ps'.map era = (ps.take fr ++ [lessPc a (gN a b), madePc (gMade ps fr j a b)] ++ lessPc b (gN a b) :: ps.drop (j + 1)).map era := by
                        rw [hps, HG4.out]; simp only [List.map_append, List.map_cons, List.map_nil]; rfl
                      have hplen : ps'.length = fr + 1 + (1 + (ps.length - j)) := by rw [hps]; simp; omega
                      have hown10 : Own w9 w.heap.size 98 7 A9 ps'.length c9 (pcCells ps') := by
                        have h1 := hown9.base_le (base' := w.heap.size) (Nat.le_trans hz7 hb8.size)
                        rw [flat_take Pc.cells 7 pc_len, flat_drop Pc.cells 7 pc_len, take_set2 hfj hlt, drop_set2 hfj hlt] at h1
                        rw [hplen, hps]
                        simpa [pcCells, Pc.cells, madePc] using h1
                      have hliv : Hid (∀ q ∈ ps', Live w9 w.heap.size q.A q.ln q.cp q.l) := Lib.hid (fun q hq => by
                        rw [hps] at hq
                        simp only [List.mem_append, List.mem_cons, List.not_mem_nil, or_false] at hq
                        rcases hq with (hq | rfl | rfl) | rfl | hq
                        · exact HV9.out q (List.mem_of_mem_take hq)
                        · exact HV9.out a (List.mem_of_getElem? HA.out)
                        · exact hM9
                        · exact HV9.out b (List.mem_of_getElem? HB.out)
                        · exact HV9.out q (List.mem_of_mem_drop hq))
                      have hgi : Hid (GInv 1048576 1152921504606846976 ps') := Lib.hid (GInv_era (by rw [hera]; exact GInv_map_era HN.out))
                      have hme : gMeas ps' (fr + 2) < gMeas ps j := by rw [← gMeas_era, hera, gMeas_era]; exact HM.out
                      have hru : Hid (gRun f (ps'.map era) (fr + 2) = gRun (gMeas its 0 + 1) (its.map era) 0) := Lib.hid (by rw [hera]; exact HF.out)
                      have hfu : gMeas ps' (fr + 2) < f := by omega
                      have HME := Lib.hid hme
                      have hple : fr + 2 ≤ ps'.length := by omega
                      clear hme hps hera hown9 HN HM HF HA HB HVC HV9 hM9 hownC htk hsrc hlit
                      rw [← hplen]
                      clear hplen
                      go_wp2_with fail
                      go_roundg (gMeas ps' (fr + 2))
                      case measure => exact HME.out
                      case rel => exact ⟨ps', fr + 2, A9, c9, f, rfl, rfl, by go_num, hple, hown10, hliv.out, hgi.out, hfu, hru.out, hb10⟩
        · have hR : gRun (gMeas its 0 + 1) (its.map era) 0 = ps.map era := by
            rw [← HR.out]
            obtain ⟨f, rfl⟩ : ∃ f, fuel = f + 1 := ⟨fuel - 1, by omega⟩
            rw [gRun, if_neg (by simpa using hlt)]
          have HG := Lib.hid (show groupT its = mergeT (ps.flatMap pcNodes) by unfold groupT; rw [hR, List.flatMap_map]; rfl)
          have hnods : nods ps ≤ 1048576 := by have := HI2.out.2.2.1; omega
          have htx : txtLen (ps.flatMap pcNodes) ≤ 1152921504606846976 := HI2.out.2.2.2
          have HLf := Lib.hid (fun q hq => (HI2.out.1 q hq).2.1 : ∀ q ∈ ps, q.left ≤ 1048576)
          clear HR hR hfuel HI2 HI HL
          generalize wr = w0 at *
          have hwsz := hb.size
          go_wp2_with fail
          go_loopw [14, 151] (fun out i w2 => ∃ (k : Nat) (A2 : Option Addr) (c2 : Nat), k ≤ ps.length ∧ i = .int .i64 k ∧ out = .slice A2 (nods (ps.take k)) c2 ∧ Own w2 w0.heap.size 95 5 A2 (nods (ps.take k)) c2 (inlCells ((ps.take k).flatMap pcNodes)) ∧ Below w0.heap.size w0 w2)
            (fun _ i _ => ps.length - (intOf i).toNat)
          case atStart => exact ⟨0, none, 0, Nat.zero_le _, rfl, rfl, Own.nil _ _ _ _, Below.refl _ _⟩
          case round =>
            obtain ⟨k, A2, c2, hk, rfl, rfl, hown2, hb2⟩ := hrel
            by_cases hk2 : k < ps.length
            · obtain ⟨x, hx⟩ : ∃ x, ps[k]? = some x := ⟨_, List.getElem?_eq_getElem hk2⟩
              have hxm := List.mem_of_getElem? hx
              have hsz2 := hb2.size
              obtain ⟨ad, hAe, _, _, g0, g1, g2, g3, g4, g5, g6⟩ := (hown.below hb2 (Nat.le_refl _)).reads.pc hx
              have hLx := (HV.out x hxm).below hb2 hwsz
              have hlf := HLf.out x hxm
              have HK : Hid ((ps.take (k + 1)).flatMap pcNodes = (ps.take k).flatMap pcNodes ++ pcNodes x) := Lib.hid (by rw [List.take_add_one, hx]; simp)
              have HKn : Hid (nods (ps.take (k + 1)) = nods (ps.take k) + (pcNodes x).length) := Lib.hid (by rw [nods, HK.out, List.length_append]; rfl)
              have hle : nods (ps.take k) + (pcNodes x).length ≤ 1048576 := by
                rw [← HKn.out]
                refine Nat.le_trans ?_ hnods
                conv => rhs; rw [← List.take_append_drop (k + 1) ps, nods_append]
                omega
              subst hAe
              clear hx hxm
              generalize (ps.take k).flatMap pcNodes = kl at *
              generalize nods (ps.take k) = nk at *
              have hbs2 : w.heap.size ≤ wr.heap.size := by omega
              go_wp2_with (first
                | (go_at_call 73
                   refine (nodes_any x w.heap.size _ (by simp; omega) (hLx.alloc hbs2 _) hlf).mono ?_
                   rintro e w3 ⟨A3, n3, c3, rfl, hL3, b3⟩
                   have hn3 : (pcNodes x).length = n3 := hL3.len
                   have hown3 := (hown2.alloc (.cells #[.int .u8 (x.sign.toNat : Int), .int .i64 x.n, .bool x.opn, .bool x.cls, .slice x.A x.ln x.cp, .int .i64 x.left, .bool x.shut] 98)).below b3 (Nat.le_refl _)
                   have hr3 := hL3.reads (by have := b3.size; simp at this; omega)
                   have hb3 : Below w0.heap.size w0 w3 := (hb2.alloc (by omega) _).trans (b3.mono (by simp; omega)))
                | (at_builtin; refine wpList_app Try.elInls rfl (.tmp 155) (.tmp 157) rfl rfl hown3 rfl hr3 (inl_one _) (by simp only [maxLen]; omega) (by omega) (by have := hb3.size; omega) ?_
                   intro A' c' w4 hown4 ho4 hm4))
              go_roundw
              case rel =>
                refine ⟨k + 1, A', c', by omega, by go_num, by rw [HKn.out, hn3], ?_, hb3.trans (ho4.below (fun a ha => (hown3.lt ha).1) hb3.size)⟩
                rw [HKn.out, hn3, HK.out, inlCells, List.flatMap_append]
                exact hown4
              case measure => simp [intOf]; omega
            · have hkk : k = ps.length := by omega
              subst hkk
              rw [List.take_length] at hown2
              have hz2 := hb2.size
              go_wp2_with fail
              refine (merge_any A2 (nods ps) c2 _ _ hown2.reads (by omega) htx).mono ?_
              rintro e w3 ⟨A', c', rfl, hown3, b3⟩
              go_wp2_with fail
              go_ret
              rw [HG.out]
              exact ⟨A', c', rfl, hown3.base_le (by omega), hb.trans ((hb2.trans (b3.mono hz2)).mono hwsz)⟩
end Go.Proofs.Ytfdfpimilmhhoaa
