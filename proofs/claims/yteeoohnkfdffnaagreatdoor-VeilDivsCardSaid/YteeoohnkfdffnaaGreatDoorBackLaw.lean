/-
  The parts of lines may be, and their lines are these lines, but blanks behind signs: the plain law.
-/
import Derived.Test.YteeoohnkfdffnaaGreatDoorTurnsLaw
import Derived.Test.YteeoohnkfdffnaaGreatDoorRight
namespace Go.Proofs.YteeoohnkfdffnaaGreatDoor

/-- a line as it is written again -/
def BackOne (l w : ByteArray) : Prop := w = l ∨ L w = Lib.trimRightB (L l) 32
/-- lines as they are written again -/
def BackAll : List ByteArray → List ByteArray → Prop
  | [], [] => True
  | l :: ls, w :: ws => BackOne l w ∧ BackAll ls ws
  | _, _ => False
theorem BackAll.snoc : ∀ {ls ws : List ByteArray} {l w : ByteArray}, BackAll ls ws → BackOne l w → BackAll (ls ++ [l]) (ws ++ [w])
  | [], [], _, _, _, h => ⟨h, trivial⟩
  | _ :: _, _ :: _, _, _, ⟨h1, h2⟩, h => ⟨h1, h2.snoc h⟩
  | [], _ :: _, _, _, h, _ => h.elim
  | _ :: _, [], _, _, h, _ => h.elim
theorem BackAll.len : ∀ {ls ws : List ByteArray}, BackAll ls ws → ws.length = ls.length
  | [], [], _ => rfl
  | _ :: _, _ :: _, ⟨_, h⟩ => by simp [h.len]
  | [], _ :: _, h => h.elim
  | _ :: _, [], h => h.elim
theorem BackAll.get : ∀ {ls ws : List ByteArray}, BackAll ls ws → ∀ (i : Nat) (l : ByteArray), ls[i]? = some l → ∃ w, ws[i]? = some w ∧ BackOne l w
  | [], [], _, i, l, h => by simp at h
  | l0 :: ls, w0 :: ws, ⟨h1, _⟩, 0, l, h => ⟨w0, rfl, by simp at h; rw [← h]; exact h1⟩
  | l0 :: ls, w0 :: ws, ⟨_, h2⟩, i + 1, l, h => by
    obtain ⟨w, hw, ho⟩ := h2.get i l (by simpa using h)
    exact ⟨w, by simpa using hw, ho⟩
  | [], _ :: _, h, _, _, _ => h.elim
  | _ :: _, [], h, _, _, _ => h.elim

def shutP (p : PartT) : PartT := { p with opn := false }
/-- two states between which one part of the path is shut -/
structure RtRel (d : Nat) (x : PartT) (l : Int) (s s' : RtS) : Prop where
  most : s'.most = s.most
  least : s'.least = l
  le : l ≤ s.least
  prev : s'.prev.map (fun q => (q.div, q.depth)) = s.prev.map (fun q => (q.div, q.depth))
  lt : d < s.inn.length
  inn : s'.inn = s.inn.set d x
theorem clash_same {p q : Option PartT} (y : PartT) (h : q.map (fun q => (q.div, q.depth)) = p.map (fun q => (q.div, q.depth))) : clash q y = clash p y := by
  cases p <;> cases q <;> simp_all [clash]
theorem rtIn_set {s : RtS} {d : Nat} {x y : PartT} (hlt : d < s.inn.length) (hy : (d : Int) < y.depth) : (s.inn.set d x).take y.depth.toNat ++ [y] = (rtIn s y).set d x := by
  unfold rtIn
  rw [List.take_set, List.set_append_left _ _ (by rw [List.length_take]; omega)]
theorem RtRel.step {d : Nat} {x : PartT} {l : Int} {s s' s1 : RtS} {y : PartT} (h : RtRel d x l s s') (hy : y.opn = false) (hd : (d : Int) < y.depth) (hs : rtStep s y = some s1) : ∃ s1', rtStep s' y = some s1' ∧ RtRel d x l s1 s1' := by
  obtain ⟨g1, g2, g3, g4, _, rfl⟩ := rtStep_some hs
  have h1 := h.le
  have h2 := h.least
  have h3 := h.most
  have hlt := h.lt
  refine ⟨⟨if y.div then y.depth + 1 else y.depth, l, some y, (rtIn s y).set d x⟩, ?_, ⟨rfl, rfl, by show l ≤ (if y.opn = true then y.depth + 1 else s.least); rw [hy]; exact h1, rfl, ?_, rfl⟩⟩
  · unfold rtStep
    rw [if_neg (by rw [g3]; rintro (h | h | h) <;> first | omega | cases h), if_neg (by rw [clash_same y h.prev, g4]; decide), if_neg (by rw [hy]; simp)]
    rw [hy, h2]
    unfold rtIn
    rw [h.inn]
    have := rtIn_set (s := s) (x := x) (y := y) hlt hd
    unfold rtIn at this
    rw [this]
    rfl
  · show d < (rtIn s y).length
    unfold rtIn
    simp only [List.length_append, List.length_take, List.length_singleton]
    omega
theorem RtRel.fold {d : Nat} {x : PartT} {l : Int} : ∀ (post : List PartT) (s s' s1 : RtS), RtRel d x l s s' → (∀ y ∈ post, y.opn = false ∧ (d : Int) < y.depth) → rtFold (some s) post = some s1 → ∃ s1', rtFold (some s') post = some s1' ∧ RtRel d x l s1 s1'
  | [], s, s', s1, h, _, hs => by
    have : s = s1 := Option.some.inj hs
    subst this
    exact ⟨s', rfl, h⟩
  | y :: t, s, s', s1, h, hy, hs => by
    obtain ⟨y1, y2⟩ := hy y (by simp)
    have hs' : rtFold (rtStep s y) t = some s1 := hs
    rcases h0 : rtStep s y with _ | s2
    · rw [h0, rtFold_none] at hs'; cases hs'
    · rw [h0] at hs'
      obtain ⟨s2', k1, k2⟩ := h.step y1 y2 h0
      obtain ⟨s1', k3, k4⟩ := RtRel.fold t s2 s2' s1 k2 (fun z hz => hy z (by simp [hz])) hs'
      exact ⟨s1', by show rtFold (rtStep s' y) t = _; rw [k1]; exact k3, k4⟩
theorem part_shut {x : PartT} (hd : x.div = true) : partT (shutP x) = partT x := by
  unfold partT shutP
  simp only [hd, if_true]
/-- a part is shut -/
theorem rt_shut {s0 s1 : RtS} {x : PartT} {post : List PartT} (hd : x.div = true) (h0 : 0 ≤ s0.least) (hmi : s0.most ≤ (s0.inn.length : Int)) (hpost : ∀ y ∈ post, y.opn = false ∧ x.depth < y.depth) (hs : rtFold (some s0) (x :: post) = some s1) :
    ∃ s1', rtFold (some s0) (shutP x :: post) = some s1' ∧ RtRel x.depth.toNat (shutP x) s0.least s1 s1' ∧ s0.least ≤ x.depth := by
  have hs' : rtFold (rtStep s0 x) post = some s1 := hs
  rcases h1 : rtStep s0 x with _ | s2
  · rw [h1, rtFold_none] at hs'; cases hs'
  rw [h1] at hs'
  obtain ⟨g1, g2, g3, g4, _, rfl⟩ := rtStep_some h1
  have hx0 : (x.depth.toNat : Int) = x.depth := by omega
  have hstep : rtStep s0 (shutP x) = some ⟨x.depth + 1, s0.least, some (shutP x), (rtIn s0 x).set x.depth.toNat (shutP x)⟩ := by
    unfold rtStep
    rw [if_neg (by rw [part_shut hd, g3]; rintro (h | h | h) <;> first | (unfold shutP at h; simp only at h; omega) | cases h)]
    rw [if_neg (by unfold clash; unfold shutP; simp only [hd]; split <;> simp)]
    rw [if_neg (by unfold shutP; simp)]
    have : (rtIn s0 x).set x.depth.toNat (shutP x) = rtIn s0 (shutP x) := by
      unfold rtIn
      rw [List.set_append_right _ _ (by rw [List.length_take]; omega), List.length_take, Nat.min_eq_left (by omega), Nat.sub_self]
      rfl
    rw [this]
    unfold shutP
    simp only [hd, if_true]
    rfl
  have hrel : RtRel x.depth.toNat (shutP x) s0.least ⟨if x.div = true then x.depth + 1 else x.depth, if x.opn = true then x.depth + 1 else s0.least, some x, rtIn s0 x⟩ ⟨x.depth + 1, s0.least, some (shutP x), (rtIn s0 x).set x.depth.toNat (shutP x)⟩ :=
    ⟨by simp only [hd, if_true], rfl, by show s0.least ≤ (if x.opn = true then x.depth + 1 else s0.least); split <;> omega, rfl, by show x.depth.toNat < (rtIn s0 x).length; unfold rtIn; simp only [List.length_append, List.length_take, List.length_singleton]; omega, rfl⟩
  obtain ⟨s1', k1, k2⟩ := RtRel.fold post _ _ s1 hrel (fun y hy => by rw [hx0]; exact hpost y hy) hs'
  exact ⟨s1', by show rtFold (rtStep s0 (shutP x)) post = _; rw [hstep]; exact k1, k2, g1⟩

/-- the same of what is written -/
structure WrRel (d : Nat) (x : PartT) (s s' : WrS) : Prop where
  out : s'.out = s.out
  lt : d < s.inn.length
  inn : s'.inn = s.inn.set d x
theorem WrRel.step {d : Nat} {x : PartT} {s s' : WrS} {y : PartT} (h : WrRel d x s s') (hd : (d : Int) < y.depth) : WrRel d x (wrStep s y) (wrStep s' y) := by
  have hlt := h.lt
  refine ⟨?_, ?_, ?_⟩
  · unfold wrStep
    simp only
    rw [h.out, h.inn, List.drop_set, if_pos (by omega)]
  · unfold wrStep
    simp only [List.length_append, List.length_take]
    omega
  · unfold wrStep
    simp only
    rw [h.inn, List.take_set, List.set_append_left _ _ (by rw [List.length_take]; omega)]
theorem WrRel.fold {d : Nat} {x : PartT} : ∀ (post : List PartT) (s s' : WrS), WrRel d x s s' → (∀ y ∈ post, (d : Int) < y.depth) → WrRel d x (post.foldl wrStep s) (post.foldl wrStep s')
  | [], _, _, h, _ => h
  | y :: t, _, _, h, hy => WrRel.fold t _ _ (h.step (hy y (by simp))) (fun z hz => hy z (by simp [hz]))
theorem wr_shut {s0 : WrS} {x : PartT} {post : List PartT} (hd : x.div = true) (h0 : 0 ≤ x.depth) (hmi : x.depth ≤ (s0.inn.length : Int)) (hpost : ∀ y ∈ post, x.depth < y.depth) :
    WrRel x.depth.toNat (shutP x) ((x :: post).foldl wrStep s0) ((shutP x :: post).foldl wrStep s0) := by
  rw [List.foldl_cons, List.foldl_cons]
  refine WrRel.fold post _ _ ⟨?_, ?_, ?_⟩ (fun y hy => by have := hpost y hy; omega)
  · unfold wrStep shutP
    simp only [hd]
  · unfold wrStep
    simp only [hd, if_true, List.length_append, List.length_take, List.length_singleton]
    omega
  · unfold wrStep
    simp only [hd, if_true]
    rw [List.set_append_right _ _ (by rw [List.length_take]; omega), List.length_take, Nat.min_eq_left (by omega), Nat.sub_self]
    unfold shutP
    simp [hd]

theorem rtFold_app (s : Option RtS) (a b : List PartT) : rtFold s (a ++ b) = rtFold (rtFold s a) b := by unfold rtFold; rw [List.foldl_append]
theorem rtFold_pre {s : Option RtS} {a b : List PartT} {r : RtS} (h : rtFold s (a ++ b) = some r) : ∃ r0, rtFold s a = some r0 ∧ rtFold (some r0) b = some r := by
  rw [rtFold_app] at h
  rcases h0 : rtFold s a with _ | r0
  · rw [h0, rtFold_none] at h; cases h
  · rw [h0] at h; exact ⟨r0, rfl, h⟩
theorem rtOk_all {l : List PartT} {st : RtS} (h : rtFold (some rtInit) l = some st) : 0 ≤ st.least ∧ 0 ≤ st.most ∧ st.most ≤ (st.inn.length : Int) ∧ st.prev = l.getLast? := by
  have := rtOk_take l l.length st (Nat.le_refl _) (by rw [List.take_length]; exact h)
  obtain ⟨h1, h2, h3, _, h5⟩ := this
  refine ⟨h1, h2, h3, h5.trans ?_⟩
  cases l with
  | nil => rfl
  | cons a t => rw [if_neg (by simp), List.getLast?_eq_getElem?]

/-- what holds of a frame that is read so far -/
structure BInv (st : FrS) (rs : RtS) (ls : List ByteArray) : Prop where
  rt : rtFold (some rtInit) st.out = some rs
  least : rs.least ≤ (st.ins.length : Int)
  most : (st.ins.length : Int) ≤ rs.most
  inn : (wrFold st.out).inn = rs.inn.take rs.most.toNat
  len : ((wrFold st.out).inn.length : Int) = rs.most
  path : ∀ (i j : Nat), st.ins[i]? = some j → ∃ p, st.out[j]? = some p ∧ (wrFold st.out).inn[i]? = some p ∧ p.div = true ∧ p.opn = true ∧ p.depth = (i : Int)
  shut : ∀ (i : Nat) p, st.ins.length ≤ i → (wrFold st.out).inn[i]? = some p → p.opn = false
  deep : ∀ (i j : Nat), st.ins[i]? = some j → ∀ (j' : Nat) q, j < j' → st.out[j']? = some q → (i : Int) < q.depth
  opn : ∀ (j : Nat) q, st.out[j]? = some q → q.opn = true → j ∈ st.ins
  back : BackAll ls ((wrFold st.out).out ++ List.replicate ((wrFold st.out).inn.length - st.ins.length) shutB)
  run : st.run = true → ∃ (ini : List PartT) (p : PartT), st.out = ini ++ [p] ∧ p.div = false ∧ p.depth = (st.ins.length : Int) ∧ rs.most = (st.ins.length : Int)
  nrun : st.run = false → ∀ q, st.out.getLast? = some q → q.div = false → (st.ins.length : Int) < q.depth

theorem BInv.allOpn {st : FrS} {rs : RtS} {ls : List ByteArray} (h : BInv st rs ls) : ∀ y ∈ (wrFold st.out).inn.take st.ins.length, y.opn = true := by
  intro y hy
  obtain ⟨i, hi⟩ := List.mem_iff_getElem?.1 hy
  rw [List.getElem?_take] at hi
  split at hi
  · rename_i hlt
    obtain ⟨p, _, hw, _, ho, _⟩ := h.path i _ (List.getElem?_eq_getElem hlt)
    rw [hw] at hi
    rw [← Option.some.inj hi]; exact ho
  · cases hi
theorem BInv.pend {st : FrS} {rs : RtS} {ls : List ByteArray} (h : BInv st rs ls) : notOpn ((wrFold st.out).inn.drop st.ins.length) = (wrFold st.out).inn.length - st.ins.length := by
  rw [notOpn_all, List.length_drop]
  intro p hp
  obtain ⟨i, hi⟩ := List.mem_iff_getElem?.1 hp
  rw [List.getElem?_drop] at hi
  exact h.shut _ p (by omega) hi
theorem BInv.pend0 {st : FrS} {rs : RtS} {ls : List ByteArray} (h : BInv st rs ls) : notOpn (wrFold st.out).inn = (wrFold st.out).inn.length - st.ins.length := by
  rw [← h.pend]
  conv => lhs; rw [← List.take_append_drop st.ins.length (wrFold st.out).inn]
  unfold notOpn
  rw [List.countP_append]
  have : List.countP (fun y : PartT => !y.opn) ((wrFold st.out).inn.take st.ins.length) = 0 := by
    rw [List.countP_eq_zero]
    intro p hp
    simp [h.allOpn p hp]
  omega
theorem BInv.takes {st : FrS} {rs : RtS} {ls : List ByteArray} (h : BInv st rs ls) : (wrFold st.out).inn.take st.ins.length = rs.inn.take st.ins.length := by
  rw [h.inn, List.take_take, Nat.min_eq_left (by have := h.most; omega)]

theorem opens_inv {l lbl : List UInt8} (h : opensT l = (lbl, true)) : Lib.trimRightB l 32 = [58, 58, 58, 123] ++ lbl ++ [125] ∧ labelT lbl = true := by
  unfold opensT at h
  split at h
  · rename_i hp
    injection h with h1 h2
    rw [Bool.and_eq_true] at h2
    obtain ⟨h2, h3⟩ := h2
    rw [h1] at h3
    obtain ⟨r, hr⟩ := List.isPrefixOf_iff_prefix.1 hp
    obtain ⟨q, hq⟩ := List.isSuffixOf_iff_suffix.1 h2
    rw [← hr] at hq h1
    have e : (openL ++ r).drop 4 = r := rfl
    rw [e] at hq h1
    have : lbl = q := by
      rw [← h1, ← hq]
      exact (suffix_yes q 125).2
    rw [← hr, ← hq, this]
    exact ⟨by simp [openL], by rw [← this]; exact h3⟩
  · injection h with _ h2; cases h2

theorem BInv.push {st : FrS} {rs : RtS} {ls : List ByteArray} (h : BInv st rs ls) {s : ByteArray} {x : PartT} {w : ByteArray} (hx : x.depth = st.ins.length) (hp : partT x = true) (hc : clash rs.prev x = false) (hw : BackOne s w)
    (hl : (if x.div then [openB x.label] else []) ++ x.lines = [w]) (hxo : x.opn = x.div) (run' : Bool) (hr : run' = !x.div) :
    ∃ rs' : RtS, BInv ⟨st.out ++ [x], st.ins ++ (if x.div then [st.out.length] else []), run'⟩ rs' (ls ++ [s]) := by
  obtain ⟨k1, k2, k3, k4⟩ := rtOk_all h.rt
  have hm := h.most
  have hle := h.least
  have hdt : x.depth.toNat = st.ins.length := by omega
  have hlen := h.len
  have hins : ∀ i j, st.ins[i]? = some j → j < st.out.length := fun i j hij => by
    obtain ⟨p, hp, _⟩ := h.path i j hij
    exact (List.getElem?_eq_some_iff.1 hp).1
  have htl : ((wrFold st.out).inn.take st.ins.length).length = st.ins.length := by rw [List.length_take]; omega
  have hrt : rtStep rs x = some ⟨if x.div then x.depth + 1 else x.depth, if x.opn then x.depth + 1 else rs.least, some x, rtIn rs x⟩ := by
    unfold rtStep
    rw [if_neg (by rw [hp]; rintro (h | h | h) <;> first | omega | cases h), if_neg (by rw [hc]; decide), if_neg]
    intro hany
    rw [Bool.and_eq_true, List.any_eq_true] at hany
    obtain ⟨ho, y, hy, hyo⟩ := hany
    unfold rtIn at hy
    rw [hdt, ← h.takes, List.mem_append, List.mem_singleton] at hy
    rcases hy with hy | rfl
    · rw [h.allOpn y hy] at hyo; cases hyo
    · rw [ho] at hyo; cases hyo
  have hws : wrFold (st.out ++ [x]) = ⟨(wrFold st.out).out ++ List.replicate ((wrFold st.out).inn.length - st.ins.length) shutB ++ [w], (wrFold st.out).inn.take st.ins.length ++ (if x.div then [x] else [])⟩ := by
    rw [wrFold_snoc]
    unfold wrStep
    rw [hdt, h.pend]
    congr 1
    rw [List.append_assoc, hl]
  have hrin : rtIn rs x = (wrFold st.out).inn.take st.ins.length ++ [x] := by unfold rtIn; rw [hdt, h.takes]
  refine ⟨⟨if x.div then x.depth + 1 else x.depth, if x.opn then x.depth + 1 else rs.least, some x, rtIn rs x⟩, ?_⟩
  refine BInv.mk (by rw [rtFold_snoc, h.rt]; exact hrt) ?_ ?_ ?_ ?_ ?_ ?_ ?_ ?_ ?_ ?_ ?_
  · simp only [hxo]
    cases x.div <;> simp <;> omega
  · simp only
    cases x.div <;> simp <;> omega
  · rw [hws]
    simp only [hrin]
    cases x.div
    · simp only [Bool.false_eq_true, if_false, List.append_nil]
      rw [hdt]
      exact (List.take_left' htl).symm
    · simp only [if_true]
      exact (List.take_of_length_le (by rw [List.length_append, htl, List.length_singleton]; omega)).symm
  · rw [hws]
    simp only [List.length_append, htl]
    cases x.div <;> simp <;> omega
  · intro i j hij
    rw [hws]
    simp only
    by_cases hi : i < st.ins.length
    · simp only [List.getElem?_append_left hi] at hij
      obtain ⟨p, hp1, hp2, hp3⟩ := h.path i j hij
      refine ⟨p, by rw [List.getElem?_append_left (hins i j hij)]; exact hp1, ?_, hp3⟩
      rw [List.getElem?_append_left (by omega), List.getElem?_take, if_pos hi]
      exact hp2
    · rw [List.getElem?_append_right (by omega)] at hij
      cases hv : x.div
      · rw [hv] at hij; simp at hij
      · rw [hv] at hij hxo
        have hi0 : i - st.ins.length = 0 := by
          rcases Nat.eq_zero_or_pos (i - st.ins.length) with h | h
          · exact h
          · rw [List.getElem?_eq_none (by simp; omega)] at hij; cases hij
        rw [hi0] at hij
        simp at hij
        subst hij
        refine ⟨x, by simp, ?_, hv, hxo, by omega⟩
        rw [List.getElem?_append_right (by omega), htl, hi0]
        simp
  · intro i p hi hip
    rw [hws] at hip
    simp only at hip hi
    cases hv : x.div
    · rw [hv] at hip hi
      simp only [Bool.false_eq_true, if_false, List.append_nil] at hip hi
      rw [List.getElem?_eq_none (by omega)] at hip
      cases hip
    · rw [hv] at hip hi
      simp only [if_true, List.length_append, List.length_singleton] at hip hi
      rw [List.getElem?_eq_none (by rw [List.length_append, List.length_singleton]; omega)] at hip
      cases hip
  · intro i j hij j' q hjj hq
    simp only at hij hq
    have hj' : j' < st.out.length + 1 := by have := (List.getElem?_eq_some_iff.1 hq).1; simpa using this
    have hi : i < st.ins.length := by
      rcases Nat.lt_or_ge i st.ins.length with h | h
      · exact h
      · rw [List.getElem?_append_right h] at hij
        cases hv : x.div
        · rw [hv] at hij; simp at hij
        · rw [hv] at hij
          have hm := List.mem_of_getElem? hij
          simp at hm
          omega
    rw [List.getElem?_append_left hi] at hij
    by_cases hjl : j' < st.out.length
    · rw [List.getElem?_append_left hjl] at hq
      exact h.deep i j hij j' q hjj hq
    · have : j' = st.out.length := by omega
      subst this
      simp at hq
      rw [← hq]
      omega
  · intro j q hq ho
    simp only at hq
    by_cases hjl : j < st.out.length
    · rw [List.getElem?_append_left hjl] at hq
      exact List.mem_append_left _ (h.opn j q hq ho)
    · have hj' : j < st.out.length + 1 := by have := (List.getElem?_eq_some_iff.1 hq).1; simpa using this
      have : j = st.out.length := by omega
      subst this
      simp at hq
      rw [← hq, hxo] at ho
      simp [ho]
  · rw [hws]
    simp only
    have hz : ((wrFold st.out).inn.take st.ins.length ++ (if x.div = true then [x] else [])).length - (st.ins ++ (if x.div = true then [st.out.length] else [])).length = 0 := by
      rw [List.length_append, List.length_append, htl]
      cases x.div <;> simp
    rw [hz, List.replicate_zero, List.append_nil]
    exact h.back.snoc hw
  · intro hr'
    simp only at hr'
    rw [hr] at hr'
    have hv : x.div = false := by simpa using hr'
    exact ⟨st.out, x, rfl, hv, by simp [hv, hx], by simp [hv, hx]⟩
  · intro hr' q hq hqd
    simp only at hr' hq
    rw [hr] at hr'
    simp at hq hr'
    rw [← hq, hr'] at hqd
    cases hqd

theorem wr_most (l : List PartT) {r : RtS} (h : rtFold (some rtInit) l = some r) : ((wrFold l).inn.length : Int) = r.most := by
  have key : ∀ (k : Nat), k ≤ l.length → ∀ r, rtFold (some rtInit) (l.take k) = some r → ((wrFold (l.take k)).inn.length : Int) = r.most := by
    intro k
    induction k with
    | zero =>
      intro _ r hr
      have : rtInit = r := Option.some.inj hr
      subst this
      rfl
    | succ k ih =>
      intro hk r hr
      obtain ⟨x, hx⟩ : ∃ x, l[k]? = some x := ⟨_, List.getElem?_eq_getElem (by omega)⟩
      have hs : l.take (k + 1) = l.take k ++ [x] := by rw [List.take_add_one, hx]; rfl
      rw [hs, rtFold_snoc] at hr
      rcases h0 : rtFold (some rtInit) (l.take k) with _ | r0
      · rw [h0] at hr; cases hr
      · rw [h0] at hr
        have ih0 := ih (by omega) r0 h0
        obtain ⟨o1, _⟩ := rtOk_all h0
        obtain ⟨g1, g2, _, _, _, rfl⟩ := rtStep_some (show rtStep r0 x = some r from hr)
        rw [hs, wrFold_snoc]
        unfold wrStep
        simp only [List.length_append, List.length_take]
        cases x.div <;> simp <;> omega
  have := key l.length (Nat.le_refl _) r (by rw [List.take_length]; exact h)
  rwa [List.take_length] at this

theorem BInv.shutOne {st : FrS} {rs : RtS} {ls : List ByteArray} (h : BInv st rs ls) {s : ByteArray} {ins' : List Nat} {j : Nat} (he : st.ins = ins' ++ [j]) (hs : shutsT (L s) = true) :
    ∃ rs' : RtS, BInv ⟨shutAt st.out j, ins', false⟩ rs' (ls ++ [s]) := by
  have hlen' : st.ins.length = ins'.length + 1 := by rw [he]; simp
  obtain ⟨x, hxj, hwx, hxd, hxo, hxp⟩ := h.path ins'.length j (by rw [he]; simp)
  have hsa : shutAt st.out j = st.out.set j (shutP x) := by unfold shutAt; rw [hxj]; rfl
  obtain ⟨hjl, hxe⟩ := List.getElem?_eq_some_iff.1 hxj
  have hsplit : st.out = st.out.take j ++ (x :: st.out.drop (j + 1)) := by
    rw [← hxe, ← List.drop_eq_getElem_cons hjl, List.take_append_drop]
  have hset : st.out.set j (shutP x) = st.out.take j ++ (shutP x :: st.out.drop (j + 1)) := by
    rw [List.set_eq_take_append_cons_drop, if_pos hjl]
  have hlast : ∀ i j', st.ins[i]? = some j' → i ≤ ins'.length := fun i j' hij => by
    have := (List.getElem?_eq_some_iff.1 hij).1
    omega
  have hpost : ∀ y ∈ st.out.drop (j + 1), y.opn = false ∧ x.depth < y.depth := by
    intro y hy
    obtain ⟨k, hk⟩ := List.mem_iff_getElem?.1 hy
    rw [List.getElem?_drop] at hk
    have h1 := h.deep ins'.length j (by rw [he]; simp) (j + 1 + k) y (by omega) hk
    refine ⟨?_, by omega⟩
    cases hyo : y.opn
    · rfl
    · obtain ⟨i, hi⟩ := List.mem_iff_getElem?.1 (h.opn _ y hk hyo)
      have h2 := hlast i _ hi
      obtain ⟨q, hq, _, _, _, hqd⟩ := h.path i _ hi
      rw [hk] at hq
      rw [← Option.some.inj hq] at hqd
      omega
  have hne : ∀ i j', ins'[i]? = some j' → j' ≠ j := fun i j' hij e => by
    have hil : i < ins'.length := (List.getElem?_eq_some_iff.1 hij).1
    have h1 : st.ins[i]? = some j' := by rw [he, List.getElem?_append_left hil]; exact hij
    obtain ⟨q, hq, _, _, _, hqd⟩ := h.path i j' h1
    rw [e, hxj] at hq
    rw [← Option.some.inj hq] at hqd
    omega
  have hrt := h.rt
  rw [hsplit] at hrt
  obtain ⟨r0, hr0, hr1⟩ := rtFold_pre hrt
  obtain ⟨k1, k2, k3, _⟩ := rtOk_all hr0
  obtain ⟨rs', hr2, hrel, hle0⟩ := rt_shut (x := x) hxd k1 k3 hpost hr1
  have hxt : x.depth.toNat = ins'.length := by omega
  have hd0 : x.depth ≤ ((wrFold (st.out.take j)).inn.length : Int) := by
    rcases h1 : rtStep r0 x with _ | r1
    · have hr1' : rtFold (rtStep r0 x) (st.out.drop (j + 1)) = some rs := hr1
      rw [h1, rtFold_none] at hr1'; cases hr1'
    · obtain ⟨_, g2, _⟩ := rtStep_some h1
      have hwl := wr_most (st.out.take j) hr0
      omega
  have hw := wr_shut (s0 := wrFold (st.out.take j)) (x := x) (post := st.out.drop (j + 1)) hxd (by omega) hd0 (fun y hy => (hpost y hy).2)
  have hw1 : (x :: st.out.drop (j + 1)).foldl wrStep (wrFold (st.out.take j)) = wrFold st.out := by
    unfold wrFold
    rw [← List.foldl_append, ← hsplit]
  have hw2 : (shutP x :: st.out.drop (j + 1)).foldl wrStep (wrFold (st.out.take j)) = wrFold (st.out.set j (shutP x)) := by
    unfold wrFold
    rw [← List.foldl_append, ← hset]
  rw [hw1, hw2, hxt] at hw
  rw [hxt] at hrel
  obtain ⟨ro, rl, ri⟩ := hw
  have hsl : (wrFold (st.out.set j (shutP x))).inn.length = (wrFold st.out).inn.length := by rw [ri, List.length_set]
  rw [hsa]
  have hm := h.most
  have hlen := h.len
  refine ⟨rs', BInv.mk (by rw [hset, rtFold_app, hr0]; exact hr2) ?_ ?_ ?_ ?_ ?_ ?_ ?_ ?_ ?_ (fun hr => by cases hr) ?_⟩
  · rw [hrel.least]; show r0.least ≤ (ins'.length : Int); omega
  · rw [hrel.most]; show (ins'.length : Int) ≤ rs.most; omega
  · simp only
    rw [ri, hrel.inn, hrel.most, h.inn, List.take_set]
  · simp only
    rw [hsl, hrel.most]; exact hlen
  · intro i j' hij
    simp only at hij ⊢
    have hil : i < ins'.length := (List.getElem?_eq_some_iff.1 hij).1
    obtain ⟨q, hq, hwq, r⟩ := h.path i j' (by rw [he, List.getElem?_append_left hil]; exact hij)
    refine ⟨q, by rw [List.getElem?_set_ne (Ne.symm (hne i j' hij))]; exact hq, ?_, r⟩
    rw [ri, List.getElem?_set_ne (by omega)]
    exact hwq
  · intro i p hi hp
    simp only at hi hp
    rw [ri, List.getElem?_set] at hp
    split at hp
    · rw [← Option.some.inj hp]; rfl
    · exact h.shut i p (by omega) hp
  · intro i j' hij k q hjk hq
    simp only at hij hq
    have hil : i < ins'.length := (List.getElem?_eq_some_iff.1 hij).1
    have hij2 : st.ins[i]? = some j' := by rw [he, List.getElem?_append_left hil]; exact hij
    rw [List.getElem?_set] at hq
    split at hq
    · rename_i hjk2
      rw [← Option.some.inj hq]
      exact h.deep i j' hij2 j x (by omega) hxj
    · exact h.deep i j' hij2 k q hjk hq
  · intro k q hq ho
    simp only at hq ⊢
    rw [List.getElem?_set] at hq
    split at hq
    · rw [← Option.some.inj hq] at ho
      simp [shutP] at ho
    · rename_i hjk
      have := h.opn k q hq ho
      rw [he, List.mem_append, List.mem_singleton] at this
      rcases this with h1 | h1
      · exact h1
      · exact absurd h1.symm hjk
  · simp only
    rw [ro, hsl, show (wrFold st.out).inn.length - ins'.length = (wrFold st.out).inn.length - st.ins.length + 1 by omega, List.replicate_succ', ← List.append_assoc]
    refine h.back.snoc (.inr ?_)
    unfold shutsT at hs
    rw [of_decide_eq_true hs]
    rfl
  · intro _ q hq hqd
    simp only at hq ⊢
    rw [List.getLast?_eq_getElem?, List.length_set, List.getElem?_set] at hq
    split at hq
    · rw [← Option.some.inj hq] at hqd
      unfold shutP at hqd
      rw [hxd] at hqd; cases hqd
    · rw [← List.getLast?_eq_getElem?] at hq
      cases hrun : st.run
      · have := h.nrun hrun q hq hqd; omega
      · obtain ⟨ini, p, h1, h2, h3, _⟩ := h.run hrun
        rw [h1] at hq
        simp at hq
        rw [← hq, h3]; omega

theorem BInv.more {st : FrS} {rs : RtS} {ls : List ByteArray} (h : BInv st rs ls) {s : ByteArray} (hr : st.run = true) (ho : (opensT (L s)).2 = false) (hs : shutsT (L s) = true → st.ins.length = 0) (h10 : 10 ∉ L s) :
    ∃ rs' : RtS, BInv ⟨addLast st.out s, st.ins, true⟩ rs' (ls ++ [s]) := by
  obtain ⟨ini, p, h1, h2, h3, h4⟩ := h.run hr
  have ha : addLast st.out s = ini ++ [{ p with lines := p.lines ++ [s] }] := by unfold addLast; rw [h1]; simp
  have hrt := h.rt
  rw [h1, rtFold_snoc] at hrt
  rcases h0 : rtFold (some rtInit) ini with _ | r0
  · rw [h0] at hrt; cases hrt
  rw [h0] at hrt
  obtain ⟨k1, k2, k3, k4⟩ := rtOk_all h0
  obtain ⟨g1, g2, g3, g4, _, hrs⟩ := rtStep_some (show rtStep r0 p = some rs from hrt)
  obtain ⟨p1, p2, p3, p4⟩ := part_run g3 h2
  have hpt : partT { p with lines := p.lines ++ [s] } = true := by
    have hg := g3
    unfold partT at hg ⊢
    simp only [h2, Bool.false_eq_true, if_false, Bool.and_eq_true, Bool.not_eq_true'] at hg ⊢
    obtain ⟨⟨⟨q1, q2⟩, q3⟩, q4⟩ := hg
    refine ⟨⟨⟨by simp, q2⟩, q3⟩, ?_⟩
    rw [List.any_append, q4]
    simp only [List.any_cons, List.any_nil, Bool.or_false, Bool.false_or, ho]
    have hc : (L s).contains 10 = false := by
      cases hcc : (L s).contains 10
      · rfl
      · exact absurd (List.contains_iff_mem.1 hcc) h10
    rw [hc, Bool.or_false]
    cases hsh : shutsT (L s)
    · rfl
    · have := hs hsh
      rw [decide_eq_false (by omega)]; rfl
  have hstep : rtStep r0 { p with lines := p.lines ++ [s] } = some ⟨rs.most, rs.least, some { p with lines := p.lines ++ [s] }, r0.inn.take p.depth.toNat ++ [{ p with lines := p.lines ++ [s] }]⟩ := by
    unfold rtStep
    rw [if_neg (by rw [hpt]; rintro (h | h | h) <;> first | (simp only at h; omega) | cases h)]
    rw [if_neg (by rw [show clash r0.prev { p with lines := p.lines ++ [s] } = clash r0.prev p from rfl, g4]; decide)]
    rw [if_neg (by simp [p3])]
    rw [hrs]
    rfl
  have hwf : wrFold st.out = wrStep (wrFold ini) p := by rw [h1, wrFold_snoc]
  have hwf2 : wrFold (ini ++ [{ p with lines := p.lines ++ [s] }]) = ⟨(wrFold st.out).out ++ [s], (wrFold st.out).inn⟩ := by
    rw [wrFold_snoc, hwf]
    unfold wrStep
    simp only [h2, Bool.false_eq_true, if_false, List.append_nil, List.append_assoc]
  have hl : ∀ (j : Nat) q, st.out[j]? = some q → q.div = true → j < ini.length := by
    intro j q hq hqd
    rw [h1] at hq
    by_cases hj : j < ini.length
    · exact hj
    · have hj' : j < ini.length + 1 := by have := (List.getElem?_eq_some_iff.1 hq).1; simpa using this
      have : j = ini.length := by omega
      subst this
      simp at hq
      rw [← hq, h2] at hqd; cases hqd
  have hget : ∀ (j : Nat) q, (ini ++ [{ p with lines := p.lines ++ [s] }])[j]? = some q → ∃ q', st.out[j]? = some q' ∧ q'.depth = q.depth ∧ q'.opn = q.opn := by
    intro j q hq
    rw [h1]
    by_cases hj : j < ini.length
    · rw [List.getElem?_append_left hj] at hq ⊢
      exact ⟨q, hq, rfl, rfl⟩
    · have hj' : j < ini.length + 1 := by have := (List.getElem?_eq_some_iff.1 hq).1; simpa using this
      have : j = ini.length := by omega
      subst this
      simp at hq
      exact ⟨p, by simp, by rw [← hq], by rw [← hq]⟩
  have hm := h.most
  have hlen := h.len
  rw [ha]
  refine ⟨⟨rs.most, rs.least, some { p with lines := p.lines ++ [s] }, r0.inn.take p.depth.toNat ++ [{ p with lines := p.lines ++ [s] }]⟩, BInv.mk (by rw [rtFold_snoc, h0]; exact hstep) h.least h.most ?_ ?_ ?_ ?_ ?_ ?_ ?_ (fun _ => ⟨ini, _, rfl, h2, h3, h4⟩) (fun hf => by cases hf)⟩
  · rw [hwf2]
    simp only
    rw [h.inn, h4, hrs]
    unfold rtIn
    rw [h3, Int.toNat_natCast, List.take_left' (by rw [List.length_take]; omega), List.take_left' (by rw [List.length_take]; omega)]
  · rw [hwf2]; exact hlen
  · intro i j hij
    obtain ⟨q, hq, hw, hqd, r⟩ := h.path i j hij
    have hj := hl j q hq hqd
    refine ⟨q, ?_, by rw [hwf2]; exact hw, hqd, r⟩
    rw [h1, List.getElem?_append_left hj] at hq
    rw [List.getElem?_append_left hj]; exact hq
  · intro i q hi hq
    rw [hwf2] at hq
    exact h.shut i q hi hq
  · intro i j hij j' q hjj hq
    obtain ⟨q', hq', e1, _⟩ := hget j' q hq
    have := h.deep i j hij j' q' hjj hq'
    omega
  · intro j q hq hqo
    obtain ⟨q', hq', _, e2⟩ := hget j q hq
    exact h.opn j q' hq' (by rw [e2]; exact hqo)
  · rw [hwf2]
    simp only
    have hz : (wrFold st.out).inn.length - st.ins.length = 0 := by omega
    have hb := h.back
    rw [hz, List.replicate_zero, List.append_nil] at hb ⊢
    exact hb.snoc (.inl rfl)

theorem BInv.step {st : FrS} {rs : RtS} {ls : List ByteArray} (h : BInv st rs ls) {s : ByteArray} (h10 : 10 ∉ L s) : ∃ rs' : RtS, BInv (frStep st s) rs' (ls ++ [s]) := by
  unfold frStep
  split
  · rename_i hop
    obtain ⟨e1, e2⟩ := opens_inv (l := L s) (lbl := (opensT (L s)).1) (by rw [← hop])
    have := h.push (s := s) (x := ⟨(st.ins.length : Int), true, S (opensT (L s)).1, true, []⟩) (w := openB (S (opensT (L s)).1)) rfl
      (by unfold partT; simp only [if_true, List.isEmpty_nil, Bool.true_and, L_S]; exact e2)
      (by unfold clash; split <;> simp) (.inr (by rw [e1]; unfold openB; rw [L_append, L_append, L_S]; rfl)) rfl rfl false rfl
    simpa using this
  · rename_i hop
    have hop' : (opensT (L s)).2 = false := by simpa using hop
    split
    · rename_i hsh
      rw [Bool.and_eq_true, decide_eq_true_eq] at hsh
      obtain ⟨ins', j, he⟩ : ∃ a b, st.ins = a ++ [b] := ⟨st.ins.dropLast, st.ins.getLast (List.ne_nil_of_length_pos hsh.2), (List.dropLast_concat_getLast _).symm⟩
      rw [show st.ins.getLast?.getD 0 = j by rw [he]; simp, show st.ins.dropLast = ins' by rw [he]; simp]
      exact h.shutOne he hsh.1
    · rename_i hsh
      have hs : shutsT (L s) = true → st.ins.length = 0 := fun hs => by
        rw [hs, Bool.true_and, decide_eq_true_eq] at hsh; omega
      split
      · rename_i hr
        exact h.more hr hop' hs h10
      · rename_i hr
        have hr' : st.run = false := by simpa using hr
        have hc : (L s).contains 10 = false := by
          cases hcc : (L s).contains 10
          · rfl
          · exact absurd (List.contains_iff_mem.1 hcc) h10
        have hsd : (shutsT (L s) && decide ((0 : Int) < (st.ins.length : Int))) = false := by
          cases hss : shutsT (L s)
          · rfl
          · have := hs hss
            rw [decide_eq_false (by omega)]; rfl
        have := h.push (s := s) (x := ⟨(st.ins.length : Int), false, ⟨#[]⟩, false, [s]⟩) (w := s) rfl
          (by unfold partT; simp only [Bool.false_eq_true, if_false, List.any_cons, List.any_nil, hop', hsd, hc]; rfl)
          (by
            rw [(rtOk_all h.rt).2.2.2]
            rcases hq : st.out.getLast? with _ | q
            · rfl
            · unfold clash
              simp only
              cases hqd : q.div
              · have := h.nrun hr' q hq hqd
                rw [decide_eq_false (by omega)]; rfl
              · rfl) (.inl rfl) rfl rfl true rfl
        simpa using this

/-- the parts of lines may be, and are written as these lines -/
theorem back_law {ls : List ByteArray} (h : ∀ s ∈ ls, 10 ∉ L s) : right6 (frT ls).out = true ∧ BackAll ls (lines6 (frT ls).out) := by
  have key : ∀ (l : List ByteArray) (st : FrS) (rs : RtS) (pre : List ByteArray), BInv st rs pre → (∀ s ∈ l, 10 ∉ L s) → ∃ rs', BInv (l.foldl frStep st) rs' (pre ++ l) := by
    intro l
    induction l with
    | nil => intro st rs pre h _; exact ⟨rs, by rw [List.append_nil]; exact h⟩
    | cons x t ih =>
      intro st rs pre h hs
      obtain ⟨rs1, h1⟩ := h.step (s := x) (hs x (by simp))
      obtain ⟨rs2, h2⟩ := ih _ _ _ h1 (fun s hs' => hs s (by simp [hs']))
      exact ⟨rs2, by rw [List.append_assoc] at h2; exact h2⟩
  obtain ⟨rs, hB⟩ := key ls ⟨[], [], false⟩ rtInit [] ⟨rfl, Int.le_refl _, Int.le_refl _, rfl, rfl, by simp, by simp [wrFold, wrInit], by simp, by simp, trivial, by simp, by simp⟩ h
  have hB' : BInv (frT ls) rs ls := hB
  refine ⟨by unfold right6; rw [hB'.rt]; rfl, ?_⟩
  unfold lines6
  rw [hB'.pend0]
  exact hB'.back
end Go.Proofs.YteeoohnkfdffnaaGreatDoor
