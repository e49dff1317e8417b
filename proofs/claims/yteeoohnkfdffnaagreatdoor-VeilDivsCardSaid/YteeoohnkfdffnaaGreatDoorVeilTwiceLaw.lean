/-
  A document veiled twice is the document veiled by who sees what both see.
-/
import Derived.Test.YteeoohnkfdffnaaGreatDoorGE
import Derived.Test.YteeoohnkfdffnaaGreatDoorGF
import Derived.Test.YteeoohnkfdffnaaGreatDoorTurnsLaw
import Derived.Test.YteeoohnkfdffnaaGreatDoorBackLaw
import Derived.Test.YteeoohnkfdffnaaGreatDoorLatLaw
namespace Go.Proofs.YteeoohnkfdffnaaGreatDoor
set_option linter.unusedVariables false

def veilG (v : List ByteArray → Bool) (u : List ByteArray) (p : PartT) : PartT := { p with lines := p.lines.map fun l => lineP v l u }
def stepG (v : List ByteArray → Bool) (st : VeS) (p : PartT) : VeS :=
  if skipT st p then st
  else ⟨st.out ++ [veilG v (openU st p) p], openU st p, if p.div && !v (openU st p) then p.depth else -1⟩
def foldG (v : List ByteArray → Bool) (ps : List PartT) : VeS := ps.foldl (stepG v) ⟨[], [], -1⟩
theorem veFold_eq (s : SeerT) (ps : List PartT) : veFold s ps = foldG (seesT s) ps := by
  have : veStep s = stepG (seesT s) := by
    funext st p
    unfold veStep stepG veilP veilG
    simp only [lineT_eq]
  unfold veFold foldG
  rw [this]
theorem foldG_snoc (v : List ByteArray → Bool) (ps : List PartT) (p : PartT) : foldG v (ps ++ [p]) = stepG v (foldG v ps) p := by
  unfold foldG; rw [List.foldl_append]; rfl
theorem foldG_congr {v w : List ByteArray → Bool} (h : ∀ x, v x = w x) (ps : List PartT) : foldG v ps = foldG w ps := by rw [show v = w from funext h]
theorem veilG_twice (v w : List ByteArray → Bool) (u : List ByteArray) (p : PartT) : veilG w u (veilG v u p) = veilG (fun x => v x && w x) u p := by
  unfold veilG
  simp only [List.map_map]
  congr 1
  refine List.map_congr_left fun l _ => ?_
  exact lineP_twice v w l u
/-- parts that lie as a frame's do -/
def Fit (ps : List PartT) : Prop := ∀ k p, ps[k]? = some p → 0 ≤ p.depth ∧ fitsT (prevOf ps k) p.depth
theorem fit_frT (ls : List ByteArray) : Fit (frT ls).out := fun k p hp => ⟨((depOk_frT ls).each p (List.mem_of_getElem? hp)).2.2, fits_at ls hp⟩
theorem Fit.pre {a : List PartT} {x : PartT} (h : Fit (a ++ [x])) : Fit a ∧ 0 ≤ x.depth ∧ fitsT a.getLast? x.depth := by
  refine ⟨fun k p hp => ?_, ?_, ?_⟩
  · have hk := (List.getElem?_eq_some_iff.1 hp).1
    obtain ⟨h1, h2⟩ := h k p (by rw [List.getElem?_append_left hk]; exact hp)
    refine ⟨h1, ?_⟩
    cases k with
    | zero => exact h2
    | succ k =>
      have : prevOf (a ++ [x]) (k + 1) = prevOf a (k + 1) := by
        show (a ++ [x])[k]? = a[k]?
        rw [List.getElem?_append_left (by omega)]
      rw [this] at h2; exact h2
  · exact (h a.length x (by simp)).1
  · have := (h a.length x (by simp)).2
    have e : prevOf (a ++ [x]) a.length = a.getLast? := by
      cases ha : a.length with
      | zero => rw [List.eq_nil_of_length_eq_zero ha]; rfl
      | succ k =>
        show (a ++ [x])[k]? = a.getLast?
        rw [List.getElem?_append_left (by omega), List.getLast?_eq_getElem?, ha]; rfl
    rw [e] at this; exact this
theorem depG_step (v : List ByteArray → Bool) {st : VeS} {last : Option PartT} (h : VeDep st last) {p : PartT} (h0 : 0 ≤ p.depth) (hn : fitsT last p.depth) : VeDep (stepG v st p) (some p) := by
  have hr := veDep_room h h0 hn
  unfold stepG
  cases hs : skipT st p
  · have hr := hr hs
    have hu : ((openU st p).length : Int) = p.depth + if p.div then 1 else 0 := by
      unfold openU
      rw [List.length_append, List.length_take, Nat.min_eq_left hr]
      cases p.div <;> simp <;> omega
    simp only [Bool.false_eq_true, if_false]
    cases hd : p.div && !v (openU st p)
    · simp only [Bool.false_eq_true, if_false]
      exact ⟨fun hc => by simp at hc, fun _ => hu⟩
    · simp only [if_true]
      have hdiv : p.div = true := by simp at hd; exact hd.1
      rw [hdiv] at hu
      exact ⟨fun _ => by simpa using hu, fun hc => by simp only at hc; omega⟩
  · simp only [if_true]
    have hh : 0 ≤ st.hid := by
      unfold skipT at hs
      simp at hs
      exact hs.1
    exact ⟨h.1, fun hc => by omega⟩
theorem snoc_ind {P : List PartT → Prop} (h0 : P []) (h1 : ∀ a x, P a → P (a ++ [x])) (l : List PartT) : P l := by
  have : ∀ r : List PartT, P r.reverse := by
    intro r
    induction r with
    | nil => exact h0
    | cons x r ih => rw [List.reverse_cons]; exact h1 _ x ih
  have := this l.reverse
  rwa [List.reverse_reverse] at this
theorem depG (v : List ByteArray → Bool) (ps : List PartT) (h : Fit ps) : VeDep (foldG v ps) ps.getLast? := by
  induction ps using snoc_ind with
  | h0 => exact ⟨fun h => by simp [foldG] at h, fun _ => rfl⟩
  | h1 a x ih =>
    obtain ⟨f1, f2, f3⟩ := h.pre
    rw [foldG_snoc]
    have := depG_step v (ih f1) f2 f3
    simpa using this
theorem roomG (v : List ByteArray → Bool) {a : List PartT} {x : PartT} (h : Fit (a ++ [x])) (hs : skipT (foldG v a) x = false) : x.depth.toNat ≤ (foldG v a).under.length := by
  obtain ⟨f1, f2, f3⟩ := h.pre
  exact veDep_room (depG v a f1) f2 f3 hs

structure TwiceInv (A B C : VeS) : Prop where
  out : B.out = C.out
  und : C.under = B.under
  cas : (B.hid = -1 ∧ A.under = B.under ∧ C.hid = A.hid) ∨ (∃ b : Nat, B.hid = b ∧ C.hid = b ∧ (A.hid = -1 ∨ (b : Int) ≤ A.hid) ∧ b + 1 ≤ A.under.length ∧ A.under.take (b + 1) = B.under.take (b + 1))
theorem skip_iff (st : VeS) (p : PartT) : skipT st p = true ↔ 0 ≤ st.hid ∧ st.hid < p.depth := by
  unfold skipT; simp
theorem skip_not (st : VeS) (p : PartT) : skipT st p = false ↔ ¬ (0 ≤ st.hid ∧ st.hid < p.depth) := by
  rw [← skip_iff]; simp
theorem openU_of {A B : VeS} {p q : PartT} (h1 : A.under.take p.depth.toNat = B.under.take p.depth.toNat) (h2 : q.depth = p.depth) (h3 : q.div = p.div) (h4 : q.label = p.label) : openU B q = openU A p := by
  unfold openU; rw [h2, h3, h4, h1]
theorem openU_len {A : VeS} {p : PartT} (h : p.depth.toNat ≤ A.under.length) : p.depth.toNat ≤ (openU A p).length ∧ (p.div = true → p.depth.toNat + 1 ≤ (openU A p).length) := by
  unfold openU
  rw [List.length_append, List.length_take, Nat.min_eq_left h]
  exact ⟨by omega, fun hd => by rw [hd]; simp⟩
/-- what is found behind a part that all three took -/
theorem TwiceInv.mk2 {v w : List ByteArray → Bool} {A B C : VeS} {p : PartT} (h : TwiceInv A B C) (h0 : 0 ≤ p.depth) (sA : skipT A p = false) (sB : skipT B p = false) (sC : skipT C p = false)
    (hU : A.under.take p.depth.toNat = B.under.take p.depth.toNat) (hr : p.depth.toNat ≤ A.under.length) :
    TwiceInv (stepG v A p) (stepG w B (veilG v (openU A p) p)) (stepG (fun x => v x && w x) C p) := by
  have sB' : skipT B (veilG v (openU A p) p) = false := sB
  obtain ⟨U, hUU⟩ : ∃ U, openU A p = U := ⟨_, rfl⟩
  have e1 : openU B (veilG v U p) = U := by rw [← hUU]; exact openU_of hU rfl rfl rfl
  have e2 : openU C p = U := by rw [← hUU]; exact openU_of (by rw [h.und]; exact hU) rfl rfl rfl
  have hl := (openU_len hr).2
  rw [hUU] at hl sB' ⊢
  unfold stepG
  rw [sA, sB', sC, e1, e2, hUU]
  simp only [Bool.false_eq_true, if_false]
  refine ⟨by rw [h.out, veilG_twice], rfl, ?_⟩
  have hdv : (veilG v U p).div = p.div := rfl
  have hdp : (veilG v U p).depth = p.depth := rfl
  rw [hdv, hdp]
  obtain ⟨d, hd⟩ := Int.eq_ofNat_of_zero_le h0
  by_cases hpd : p.div = true
  · have hl := hl hpd
    rw [hd, Int.toNat_natCast] at hl
    by_cases hv : v U = true <;> by_cases hw : w U = true
    · exact .inl ⟨by simp [hw], rfl, by simp [hv, hw]⟩
    · exact .inr ⟨d, by simp [hpd, hw, hd], by simp [hpd, hw, hd], .inl (by simp [hv]), hl, rfl⟩
    · exact .inl ⟨by simp [hw], rfl, by simp [hpd, hv, hw, hd]⟩
    · exact .inr ⟨d, by simp [hpd, hw, hd], by simp [hpd, hv, hw, hd], .inr (by simp [hpd, hv, hd]), hl, rfl⟩
  · exact .inl ⟨by simp [hpd], rfl, by simp [hpd]⟩
theorem TwiceInv.step {v w : List ByteArray → Bool} {A B C : VeS} {p : PartT} (h : TwiceInv A B C) (h0 : 0 ≤ p.depth) (hr : skipT A p = false → p.depth.toNat ≤ A.under.length) :
    TwiceInv (stepG v A p) (if skipT A p then B else stepG w B (veilG v (openU A p) p)) (stepG (fun x => v x && w x) C p) := by
  cases sA : skipT A p
  · have hr := hr sA
    simp only [Bool.false_eq_true, if_false]
    rcases h.cas with ⟨c1, c2, c3⟩ | ⟨b, c1, c2, c3, c4, c5⟩
    · refine h.mk2 h0 sA ?_ ?_ (by rw [c2]) hr
      · rw [skip_not, c1]; omega
      · rw [skip_not] at sA ⊢; rw [c3]; exact sA
    · by_cases hb : (b : Int) < p.depth
      · have sB : skipT B (veilG v (openU A p) p) = true := by rw [skip_iff, c1]; exact ⟨by omega, hb⟩
        have sC : skipT C p = true := by rw [skip_iff, c2]; exact ⟨by omega, hb⟩
        unfold stepG
        rw [sA, sB, sC]
        simp only [Bool.false_eq_true, if_false, if_true]
        refine ⟨h.out, h.und, .inr ⟨b, c1, c2, ?_, ?_, ?_⟩⟩
        · simp only
          split
          · right; omega
          · left; rfl
        · have := (openU_len hr).1
          simp only
          omega
        · simp only
          unfold openU
          rw [List.take_append_of_le_length (by rw [List.length_take]; omega), List.take_take, Nat.min_eq_left (by omega)]
          exact c5
      · refine h.mk2 h0 sA ?_ ?_ ?_ hr
        · rw [skip_not, c1]; omega
        · rw [skip_not, c2]; omega
        · have := congrArg (List.take p.depth.toNat) c5
          rw [List.take_take, List.take_take, Nat.min_eq_left (by omega)] at this
          exact this
  · rw [skip_iff] at sA
    have sA2 : skipT A p = true := (skip_iff A p).2 sA
    have sC : skipT C p = true := by
      rw [skip_iff]
      rcases h.cas with ⟨c1, c2, c3⟩ | ⟨b, c1, c2, c3, c4, c5⟩
      · rw [c3]; exact sA
      · rw [c2]; omega
    unfold stepG
    rw [sA2, sC]
    simp only [if_true]
    exact h
theorem foldG_inv (v w : List ByteArray → Bool) (ps : List PartT) (h : Fit ps) : TwiceInv (foldG v ps) (foldG w (foldG v ps).out) (foldG (fun x => v x && w x) ps) := by
  induction ps using snoc_ind with
  | h0 => exact ⟨rfl, rfl, .inl ⟨rfl, rfl, rfl⟩⟩
  | h1 a x ih =>
    obtain ⟨f1, f2, f3⟩ := h.pre
    have := (ih f1).step (v := v) (w := w) f2 (roomG v h)
    rw [foldG_snoc, foldG_snoc]
    have e : foldG w (stepG v (foldG v a) x).out = if skipT (foldG v a) x then foldG w (foldG v a).out else stepG w (foldG w (foldG v a).out) (veilG v (openU (foldG v a) x) x) := by
      cases hs : skipT (foldG v a) x
      · have : (stepG v (foldG v a) x).out = (foldG v a).out ++ [veilG v (openU (foldG v a) x) x] := by unfold stepG; rw [hs]; rfl
        rw [this, foldG_snoc]; rfl
      · have : (stepG v (foldG v a) x).out = (foldG v a).out := by unfold stepG; rw [hs]; rfl
        rw [this]; rfl
    rw [e]
    exact this
theorem foldG_twice (v w : List ByteArray → Bool) (ps : List PartT) (h : Fit ps) : (foldG w (foldG v ps).out).out = (foldG (fun x => v x && w x) ps).out := (foldG_inv v w ps h).out

/-! ## what is kept may be -/
theorem no124 (h : List UInt8 → Bool) (l : List UInt8) (hn : (124 : UInt8) ∉ rwL h l) : rwL h l = l := by
  induction l using line_ind with
  | h0 => rfl
  | h1 b r hs ih =>
    rw [rwL_none h hs] at hn ⊢
    simp only [List.mem_cons, not_or] at hn
    rw [ih hn.2]
  | h2 l a t z hs ih => exact absurd (by rw [rwL_some h hs]; simp) hn
theorem trimR_all {l m : List UInt8} (h : Lib.trimRightB l 32 = m) (c : UInt8) (hc : c ∉ m) (h32 : c ≠ 32) : c ∉ l := by
  obtain ⟨k, hk⟩ := trimR_split l
  rw [hk, h]
  simp only [List.mem_append, List.mem_replicate, not_or, not_and]
  exact ⟨hc, fun _ => h32⟩
theorem opens_true {l : List UInt8} (h : (opensT l).2 = true) : Lib.trimRightB l 32 = [58, 58, 58, 123] ++ (opensT l).1 ++ [125] ∧ labelT (opensT l).1 = true :=
  opens_inv (l := l) (lbl := (opensT l).1) (by rw [← h])
theorem opens_rw (h : List UInt8 → Bool) {l : List UInt8} (ho : (opensT (rwL h l)).2 = true) : rwL h l = l := by
  obtain ⟨e, hl⟩ := opens_true ho
  refine no124 h l (trimR_all e 124 ?_ (by decide))
  simp only [List.mem_append, List.mem_cons, List.not_mem_nil, or_false, not_or]
  exact ⟨⟨by decide, label_no hl 124 (by simp)⟩, by decide⟩
theorem shuts_rw (h : List UInt8 → Bool) {l : List UInt8} (ho : shutsT (rwL h l) = true) : rwL h l = l := by
  unfold shutsT at ho
  refine no124 h l (trimR_all (of_decide_eq_true ho) 124 (by decide) (by decide))
theorem head_58 {l m : List UInt8} (h : Lib.trimRightB l 32 = 58 :: m) : l.head? = some 58 := by
  obtain ⟨k, hk⟩ := trimR_split l
  rw [hk, h]; rfl
theorem headT_first {a lb : List UInt8} (ha : signsOk a = true) : (L (headT (S a) (S lb))).head? ≠ some 58 := by
  obtain ⟨i, j, y, e, hi, h1, h6⟩ := signs_shape ha
  subst e
  rw [headT_shape i j y lb h1, L_S]
  cases i with
  | zero =>
    obtain ⟨j, rfl⟩ : ∃ m, j = m + 1 := ⟨j - 1, by omega⟩
    simp [List.replicate_succ]
  | succ i => simp [List.replicate_succ]
theorem opens_lineP (v : List ByteArray → Bool) (l : ByteArray) (u : List ByteArray) (h : (opensT (L l)).2 = false) : (opensT (L (lineP v l u))).2 = false := by
  rw [← Bool.not_eq_true] at h ⊢
  intro ho
  unfold lineP at ho
  cases hh : headedT (L l) with
  | none =>
    rw [hh] at ho
    simp only [L_S] at ho
    rw [opens_rw _ ho] at ho
    exact h ho
  | some p =>
    obtain ⟨a, lb⟩ := p
    obtain ⟨k, e, hl, hs⟩ := headed_some hh
    rw [hh] at ho
    simp only at ho
    split at ho
    · rw [L_S] at ho
      rw [opens_rw _ ho] at ho
      exact h ho
    · exact headT_first hs (head_58 (opens_true ho).1)
theorem shuts_lineP (v : List ByteArray → Bool) (l : ByteArray) (u : List ByteArray) (h : shutsT (L l) = false) : shutsT (L (lineP v l u)) = false := by
  rw [← Bool.not_eq_true] at h ⊢
  intro ho
  unfold lineP at ho
  cases hh : headedT (L l) with
  | none =>
    rw [hh] at ho
    simp only [L_S] at ho
    rw [shuts_rw _ ho] at ho
    exact h ho
  | some p =>
    obtain ⟨a, lb⟩ := p
    obtain ⟨k, e, hl, hs⟩ := headed_some hh
    rw [hh] at ho
    simp only at ho
    split at ho
    · rw [L_S] at ho
      rw [shuts_rw _ ho] at ho
      exact h ho
    · unfold shutsT at ho
      exact headT_first hs (head_58 (of_decide_eq_true ho))
theorem partT_veil (v : List ByteArray → Bool) (u : List ByteArray) {p : PartT} (h : partT p = true) : partT (veilG v u p) = true := by
  have e : partT (veilG v u p) = if p.div then (p.lines.map fun l => lineP v l u).isEmpty && labelT (L p.label)
      else !(p.lines.map fun l => lineP v l u).isEmpty && decide (p.label.size = 0) && !p.opn && !((p.lines.map fun l => lineP v l u).any fun s => (opensT (L s)).2 || (shutsT (L s) && decide (0 < p.depth)) || (L s).contains 10) := rfl
  rw [e]
  clear e
  unfold partT at h
  by_cases hd : p.div = true
  case neg =>
    rw [if_neg hd] at h ⊢
    simp only [Bool.and_eq_true, Bool.not_eq_true', List.any_eq_false, Bool.or_eq_true, not_or] at h ⊢
    obtain ⟨⟨⟨h1, h2⟩, h3⟩, h4⟩ := h
    refine ⟨⟨⟨?_, h2⟩, h3⟩, fun x hx => ?_⟩
    · cases hp : p.lines with
      | nil => rw [hp] at h1; cases h1
      | cons => rfl
    · obtain ⟨l, hl, rfl⟩ := List.mem_map.1 hx
      obtain ⟨⟨q1, q2⟩, q3⟩ := h4 l hl
      refine ⟨⟨?_, ?_⟩, ?_⟩
      · rw [Bool.not_eq_true] at q1 ⊢
        exact opens_lineP v l u q1
      · intro hc
        cases hsl : shutsT (L l)
        · rw [shuts_lineP v l u hsl] at hc
          exact absurd hc.1 (by decide)
        · exact q2 ⟨hsl, hc.2⟩
      · intro hc
        rw [List.contains_iff_mem] at hc q3
        exact lf_lineP v u q3 hc
  case pos =>
    rw [if_pos hd] at h ⊢
    simp only [Bool.and_eq_true] at h ⊢
    refine ⟨?_, h.2⟩
    cases hp : p.lines with
    | nil => rfl
    | cons => rw [hp] at h; exact absurd h.1 (by simp)
def keyOf (p : Option PartT) : Option (Bool × Int) := p.map fun q => (q.div, q.depth)
structure RInv (st : VeS) (r r' : RtS) : Prop where
  least : r'.least ≤ r.least
  cas : (st.hid = -1 ∧ r'.most = r.most ∧ keyOf r'.prev = keyOf r.prev ∧ r'.inn.map (·.opn) = r.inn.map (·.opn)) ∨
    (∃ h : Nat, st.hid = h ∧ r'.most = h + 1 ∧ (∀ q, r'.prev = some q → q.div = true) ∧ h + 1 ≤ r.inn.length ∧ (r'.inn.map (·.opn)).take (h + 1) = (r.inn.map (·.opn)).take (h + 1))
theorem RInv.step (v : List ByteArray → Bool) {st : VeS} {r r' r1 : RtS} {x : PartT} (h : RInv st r r') (hx : rtStep r x = some r1) (h0 : 0 ≤ x.depth) (hm : r.most ≤ (r.inn.length : Int)) :
    (skipT st x = true → RInv (stepG v st x) r1 r') ∧ (skipT st x = false → ∃ r1', rtStep r' (veilG v (openU st x) x) = some r1' ∧ RInv (stepG v st x) r1 r1') := by
  obtain ⟨q1, q2, q3, q4, q5, q6⟩ := rtStep_some hx
  obtain ⟨d, hd⟩ := Int.eq_ofNat_of_zero_le h0
  rw [hd] at q1 q2 q5
  simp only [Int.toNat_natCast] at q5
  have hdl : d ≤ r.inn.length := by omega
  constructor
  · intro hs
    have hs2 := (skip_iff st x).1 hs
    unfold stepG
    rw [hs]
    simp only [if_true]
    subst q6
    refine ⟨?_, ?_⟩
    · simp only
      have := h.least
      split
      · rw [hd]; omega
      · exact this
    · rcases h.cas with ⟨c1, _⟩ | ⟨k, c1, c2, c3, c4, c5⟩
      · omega
      · refine .inr ⟨k, c1, c2, c3, ?_, ?_⟩
        · simp only [rtIn, List.length_append, List.length_take, List.length_singleton]
          rw [hd]; simp; omega
        · rw [c5]
          simp only [rtIn]
          rw [hd, Int.toNat_natCast, List.map_append, List.map_take, List.take_append_of_le_length (by rw [List.length_take, List.length_map]; omega), List.take_take, Nat.min_eq_left (by omega)]
  · intro hs
    have hs2 := (skip_not st x).1 hs
    -- the labels' openness above
    have hin : (r'.inn.take d).map (·.opn) = (r.inn.take d).map (·.opn) := by
      rw [List.map_take, List.map_take]
      rcases h.cas with ⟨_, _, _, c4⟩ | ⟨k, c1, c2, c3, c4, c5⟩
      · rw [c4]
      · have := congrArg (List.take d) c5
        rw [List.take_take, List.take_take, Nat.min_eq_left (by omega)] at this
        exact this
    have hmost : x.depth ≤ r'.most := by
      rcases h.cas with ⟨_, c2, _⟩ | ⟨k, c1, c2, _⟩
      · rw [c2, hd]; exact q2
      · rw [c2]; omega
    have hleast : r'.least ≤ x.depth := by have := h.least; rw [hd]; omega
    have hpt := partT_veil v (openU st x) q3
    have hcl : clash r'.prev (veilG v (openU st x) x) = false := by
      rcases h.cas with ⟨_, _, c3, _⟩ | ⟨k, _, _, c3, _⟩
      · have := clash_same (p := r.prev) (q := r'.prev) x c3
        rw [q4] at this
        exact this
      · unfold clash
        cases hp : r'.prev with
        | none => rfl
        | some q => simp only; rw [c3 q hp]; simp
    have hop : ((veilG v (openU st x) x).opn && (rtIn r' (veilG v (openU st x) x)).any (fun y => !y.opn)) = false := by
      cases hxo : x.opn
      · show (x.opn && _) = false
        rw [hxo]; rfl
      · have hall := q5 hxo
        show (x.opn && _) = false
        rw [hxo, Bool.true_and, List.any_eq_false]
        intro y hy
        have hyo : y.opn = true := by
          unfold rtIn at hy
          have hvd : (veilG v (openU st x) x).depth.toNat = d := by show x.depth.toNat = d; rw [hd]; rfl
          rw [hvd] at hy
          rcases List.mem_append.1 hy with hy | hy
          · have h1 : y.opn ∈ (r'.inn.take d).map (·.opn) := List.mem_map_of_mem hy
            rw [hin] at h1
            obtain ⟨z, hz, e⟩ := List.mem_map.1 h1
            rw [← e]; exact hall z hz
          · rw [List.mem_singleton.1 hy]; exact hxo
        simp [hyo]
    refine ⟨⟨if x.div then x.depth + 1 else x.depth, if x.opn then x.depth + 1 else r'.least, some (veilG v (openU st x) x), rtIn r' (veilG v (openU st x) x)⟩, ?_, ?_⟩
    · unfold rtStep
      have hvd : (veilG v (openU st x) x).depth = x.depth := rfl
      rw [if_neg (by rw [hvd, hpt]; simp; omega), hcl, hop]
      rfl
    · subst q6
      unfold stepG
      rw [hs]
      simp only [Bool.false_eq_true, if_false]
      have hvd : (veilG v (openU st x) x).depth = x.depth := rfl
      refine ⟨?_, ?_⟩
      · simp only
        have := h.least
        split <;> omega
      · have hin2 : (rtIn r' (veilG v (openU st x) x)).map (·.opn) = (rtIn r x).map (·.opn) := by
          simp only [rtIn, hvd]
          rw [hd, Int.toNat_natCast, List.map_append, List.map_append, hin]
          rfl
        by_cases hxd : (x.div && !v (openU st x)) = true
        case neg => exact .inl ⟨by simp only; rw [if_neg hxd], rfl, rfl, hin2⟩
        case pos =>
          have hdiv : x.div = true := by simp at hxd; exact hxd.1
          refine .inr ⟨d, by simp only; rw [if_pos hxd, hd], by simp [hdiv, hd], fun q hq => ?_, ?_, by rw [hin2]⟩
          · simp only [Option.some.injEq] at hq
            rw [← hq]; exact hdiv
          · simp only [rtIn, List.length_append, List.length_take, List.length_singleton]
            rw [hd]; simp; omega
theorem rt_veil (v : List ByteArray → Bool) (ps : List PartT) (hf : Fit ps) : ∀ r, rtFold (some rtInit) ps = some r → ∃ r', rtFold (some rtInit) (foldG v ps).out = some r' ∧ RInv (foldG v ps) r r' := by
  induction ps using snoc_ind with
  | h0 =>
    intro r hr
    simp only [rtFold, List.foldl_nil, Option.some.injEq] at hr
    subst hr
    exact ⟨rtInit, rfl, Int.le_refl _, .inl ⟨rfl, rfl, rfl, rfl⟩⟩
  | h1 a x ih =>
    intro r hr
    obtain ⟨f1, f2, f3⟩ := hf.pre
    rw [rtFold_snoc] at hr
    obtain ⟨r0, h0, h1⟩ := Option.bind_eq_some_iff.1 hr
    obtain ⟨r', g1, g2⟩ := ih f1 r0 h0
    obtain ⟨k1, k2⟩ := g2.step v h1 f2 (rtOk_all h0).2.2.1
    rw [foldG_snoc]
    cases hs : skipT (foldG v a) x
    · obtain ⟨r1', e1, e2⟩ := k2 hs
      refine ⟨r1', ?_, e2⟩
      have : (stepG v (foldG v a) x).out = (foldG v a).out ++ [veilG v (openU (foldG v a) x) x] := by unfold stepG; rw [hs]; rfl
      rw [this, rtFold_snoc, g1]
      exact e1
    · refine ⟨r', ?_, k1 hs⟩
      have : (stepG v (foldG v a) x).out = (foldG v a).out := by unfold stepG; rw [hs]; rfl
      rw [this]; exact g1
theorem right_veil (v : List ByteArray → Bool) {ps : List PartT} (hf : Fit ps) (h : right6 ps = true) : right6 (foldG v ps).out = true := by
  unfold right6 at h ⊢
  obtain ⟨r, hr⟩ := Option.isSome_iff_exists.1 h
  obtain ⟨r', h1, _⟩ := rt_veil v ps hf r hr
  rw [h1]; rfl

/-! ## what is written is read back -/
/-- lines and labels without faults -/
def LineOk (x : ByteArray) : Prop := Good (L x) ∧ (10 : UInt8) ∉ L x
def PartG (p : PartT) : Prop := LineOk p.label ∧ ∀ x ∈ p.lines, LineOk x
theorem opens_ok {s : ByteArray} (h : LineOk s) (ho : (opensT (L s)).2 = true) : LineOk (S (opensT (L s)).1) := by
  obtain ⟨e, hl⟩ := opens_true ho
  obtain ⟨k, hk⟩ := trimR_split (L s)
  rw [e] at hk
  obtain ⟨hg, h10⟩ := h
  rw [hk] at hg h10
  constructor
  · rw [L_S]
    rw [show [58, 58, 58, 123] ++ (opensT (L s)).1 ++ [125] ++ List.replicate k 32 = [58, 58, 58] ++ 123 :: ((opensT (L s)).1 ++ 125 :: List.replicate k 32) by simp] at hg
    exact ((hg.split (by decide)).2.1.split (by decide)).1
  · rw [L_S]
    intro hm
    exact h10 (by simp [hm])
theorem frStep_ok (st : FrS) (s : ByteArray) (h : ∀ p ∈ st.out, PartG p) (hs : LineOk s) : ∀ p ∈ (frStep st s).out, PartG p := by
  intro p hp
  unfold frStep at hp
  split at hp
  · rename_i ho
    rcases List.mem_append.1 hp with hp | hp
    · exact h p hp
    · rw [List.mem_singleton.1 hp]
      exact ⟨opens_ok hs ho, fun x hx => by cases hx⟩
  · split at hp
    · simp only at hp
      unfold shutAt at hp
      split at hp
      · rename_i q hq
        rcases List.mem_or_eq_of_mem_set hp with hp | rfl
        · exact h p hp
        · exact h q (List.mem_of_getElem? hq)
      · exact h p hp
    · split at hp
      · simp only at hp
        unfold addLast at hp
        split at hp
        · rename_i q hq
          rcases List.mem_append.1 hp with hp | hp
          · exact h p (List.dropLast_subset _ hp)
          · rw [List.mem_singleton.1 hp]
            have hq2 := h q (List.mem_of_getLast? hq)
            refine ⟨hq2.1, fun x hx => ?_⟩
            rcases List.mem_append.1 hx with hx | hx
            · exact hq2.2 x hx
            · rw [List.mem_singleton.1 hx]; exact hs
        · exact h p hp
      · rcases List.mem_append.1 hp with hp | hp
        · exact h p hp
        · rw [List.mem_singleton.1 hp]
          exact ⟨⟨.nil, by simp [L]⟩, fun x hx => by rw [List.mem_singleton.1 hx]; exact hs⟩
theorem frT_ok7 (ls : List ByteArray) (hs : ∀ x ∈ ls, LineOk x) : ∀ p ∈ (frT ls).out, PartG p := by
  have : ∀ (l : List ByteArray) (st : FrS), (∀ x ∈ l, LineOk x) → (∀ p ∈ st.out, PartG p) → ∀ p ∈ (l.foldl frStep st).out, PartG p := by
    intro l
    induction l with
    | nil => intro st _ h; exact h
    | cons x t ih => intro st hx h; exact ih _ (fun y hy => hx y (by simp [hy])) (frStep_ok st x h (hx x (by simp)))
  exact this ls _ hs (fun p hp => by cases hp)
theorem foldG_ok (v : List ByteArray → Bool) (ps : List PartT) (h : ∀ p ∈ ps, PartG p) : ∀ p ∈ (foldG v ps).out, PartG p := by
  induction ps using snoc_ind with
  | h0 => intro p hp; cases hp
  | h1 a x ih =>
    have ih := ih (fun p hp => h p (by simp [hp]))
    rw [foldG_snoc]
    intro p hp
    unfold stepG at hp
    split at hp
    · exact ih p hp
    · rcases List.mem_append.1 hp with hp | hp
      · exact ih p hp
      · rw [List.mem_singleton.1 hp]
        obtain ⟨g1, g2⟩ := h x (by simp)
        refine ⟨g1, fun y hy => ?_⟩
        obtain ⟨l, hl, rfl⟩ := List.mem_map.1 hy
        obtain ⟨k1, k2⟩ := g2 l hl
        exact ⟨good_lineP v _ k1, lf_lineP v _ k2⟩
theorem shutB_ok : LineOk shutB := ⟨.cons c58 (.cons c58 (.cons c58 .nil)), by decide⟩
theorem openB_ok {lb : ByteArray} (h : LineOk lb) : LineOk (openB lb) := by
  have e : L (openB lb) = [58, 58, 58, 123] ++ (L lb ++ [125]) := by
    unfold openB; simp [L_append, L_lit]
  obtain ⟨h1, h2⟩ := h
  constructor
  · rw [e]
    exact .cons c58 (.cons c58 (.cons c58 (.cons c123 (h1.app (.chunk c125)))))
  · rw [e]
    simp only [List.mem_append, List.mem_cons, List.not_mem_nil, or_false, not_or]
    exact ⟨by decide, h2, by decide⟩
theorem lines6_ok {l : List PartT} (h : ∀ p ∈ l, PartG p) : ∀ x ∈ lines6 l, LineOk x := by
  have key : ∀ x ∈ (wrFold l).out, LineOk x := by
    induction l using snoc_ind with
    | h0 => intro x hx; cases hx
    | h1 a y ih =>
      have ih := ih (fun p hp => h p (by simp [hp]))
      obtain ⟨g1, g2⟩ := h y (by simp)
      rw [wrFold_snoc]
      intro x hx
      unfold wrStep at hx
      simp only [List.mem_append] at hx
      rcases hx with ((hx | hx) | hx) | hx
      · exact ih x hx
      · rw [(List.mem_replicate.1 hx).2]; exact shutB_ok
      · split at hx
        · rw [List.mem_singleton.1 hx]; exact openB_ok g1
        · cases hx
      · exact g2 x hx
  intro x hx
  unfold lines6 at hx
  rcases List.mem_append.1 hx with hx | hx
  · exact key x hx
  · rw [(List.mem_replicate.1 hx).2]; exact shutB_ok
theorem good_joinT : ∀ l : List ByteArray, (∀ x ∈ l, LineOk x) → Good (joinT (l.map L))
  | [], _ => .nil
  | x :: t, h => by
    have : joinT ((x :: t).map L) = L x ++ 10 :: joinT (t.map L) := by simp [joinT]
    rw [this]
    exact (h x (by simp)).1.join (good_joinT t fun y hy => h y (by simp [hy])) lf_chunk
theorem lines_ok (t : List UInt8) (hg : Good t) : ∀ x ∈ linesB (S t), LineOk x := by
  have h2 : ∀ n (l : List UInt8), l.length ≤ n → Good l → ∀ x ∈ split10 l, Good x := by
    intro n
    induction n with
    | zero =>
      intro l hl _ x hx
      have : l = [] := List.eq_nil_of_length_eq_zero (by omega)
      subst this
      rw [split10_none (by simp)] at hx
      rw [List.mem_singleton.1 hx]; exact .nil
    | succ n ih =>
      intro l hl hg x hx
      rcases find10 l with h | ⟨a, r, e, h⟩
      · rw [split10_none h] at hx
        rw [List.mem_singleton.1 hx]; exact hg
      · rw [e, split10_app r h] at hx
        rw [e] at hg
        obtain ⟨s1, s2, _⟩ := hg.split (by decide)
        rcases List.mem_cons.1 hx with h | h
        · rw [h]; exact s1
        · have hl2 := congrArg List.length e
          simp at hl2
          exact ih r (by omega) s2 x h
  intro x hx
  unfold linesB at hx
  obtain ⟨y, hy, rfl⟩ := List.mem_map.1 hx
  have h10 := linesT_no _ y hy
  refine ⟨?_, h10⟩
  unfold linesT at hy
  rw [L_S] at hy ⊢
  refine h2 _ t (Nat.le_refl _) hg y ?_
  split at hy
  · exact List.dropLast_subset _ hy
  · exact hy
theorem parts_ok (text : ByteArray) : ∀ p ∈ partsOf text, PartG p := frT_ok7 _ (lines_ok _ (good_repT text))
theorem parts_fit (text : ByteArray) : Fit (partsOf text) := fit_frT _
theorem parts_right (text : ByteArray) : right6 (partsOf text) = true := (back_law (fun s hs => (lines_ok _ (good_repT text) s hs).2)).1
theorem linesB_join7 {l : List ByteArray} (h : ∀ x ∈ l, 10 ∉ L x) : linesB (S (joinT (l.map L))) = l := by
  unfold linesB
  rw [L_S, lines_join (fun x hx => by obtain ⟨y, hy, rfl⟩ := List.mem_map.1 hx; exact h y hy), map_S_L]
/-- a document, veiled by who sees what v tells -/
def docP (v : List ByteArray → Bool) (text : ByteArray) : ByteArray := S (joinT ((write6 (foldG v (partsOf text)).out).map L))
theorem veilT_eq (s : SeerT) (text : ByteArray) : veilT s text = docP (seesT s) text := by unfold veilT docP; rw [veFold_eq]
theorem docP_congr {v w : List ByteArray → Bool} (h : ∀ x, v x = w x) (text : ByteArray) : docP v text = docP w text := by rw [show v = w from funext h]
theorem docP_write (v : List ByteArray → Bool) (text : ByteArray) : write6 (foldG v (partsOf text)).out = lines6 (foldG v (partsOf text)).out := by
  unfold write6; rw [right_veil v (parts_fit text) (parts_right text)]; rfl
theorem repT_doc (v : List ByteArray → Bool) (text : ByteArray) : S (repT (docP v text)) = docP v text := by
  unfold docP
  rw [docP_write, repT_good (good_joinT _ (lines6_ok (foldG_ok v _ (parts_ok text))))]
theorem parts_again (v : List ByteArray → Bool) (text : ByteArray) : partsOf (docP v text) = (foldG v (partsOf text)).out := by
  have h1 := lines6_ok (foldG_ok v _ (parts_ok text))
  unfold partsOf
  rw [repT_doc]
  unfold docP
  rw [docP_write, linesB_join7 (fun x hx => (h1 x hx).2)]
  exact turns_law (right_veil v (parts_fit text) (parts_right text))
theorem docP_twice (v w : List ByteArray → Bool) (text : ByteArray) : docP w (docP v text) = docP (fun x => v x && w x) text := by
  unfold docP
  rw [show (S (joinT ((write6 (foldG v (partsOf text)).out).map L))) = docP v text from rfl, parts_again, foldG_twice v w _ (parts_fit text)]
end Go.Proofs.YteeoohnkfdffnaaGreatDoor
