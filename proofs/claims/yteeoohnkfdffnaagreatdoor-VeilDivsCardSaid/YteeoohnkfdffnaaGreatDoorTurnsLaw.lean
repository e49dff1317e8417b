/-
  Parts that may be are the parts of their lines: the plain law.
-/
import Derived.Test.YteeoohnkfdffnaaGreatDoorWriteLaw
namespace Go.Proofs.YteeoohnkfdffnaaGreatDoor

def opnd (p : PartT) : PartT := { p with opn := true }
/-- the parts of a frame of which some are open yet -/
def openV (ps : List PartT) (ins : List Nat) : List PartT := ps.mapIdx fun j p => if j ∈ ins then opnd p else p

theorem openV_len (ps : List PartT) (ins : List Nat) : (openV ps ins).length = ps.length := by simp [openV]
theorem openV_get (ps : List PartT) (ins : List Nat) (j : Nat) : (openV ps ins)[j]? = (ps[j]?).map fun p => if j ∈ ins then opnd p else p := by
  unfold openV; rw [List.getElem?_mapIdx]
theorem openV_nil (ps : List PartT) : openV ps [] = ps := by
  apply List.ext_getElem?
  intro j
  rw [openV_get]
  simp
theorem openV_all {ps : List PartT} {ins : List Nat} (h : ∀ i ∈ ins, ∀ p, ps[i]? = some p → p.opn = true) : openV ps ins = ps := by
  apply List.ext_getElem?
  intro j
  rw [openV_get]
  rcases hj : ps[j]? with _ | p
  · rfl
  · rw [Option.map_some]
    split
    · rename_i hm
      have := h j hm p hj
      obtain ⟨d, v, l, o, ls⟩ := p
      simp only at this
      subst this; rfl
    · rfl
theorem openV_snoc {ps : List PartT} {ins : List Nat} {x : PartT} (h : ∀ i ∈ ins, i < ps.length) : openV (ps ++ [x]) ins = openV ps ins ++ [x] := by
  unfold openV
  rw [List.mapIdx_append]
  congr 1
  simp only [List.mapIdx_cons, List.mapIdx_nil, Nat.zero_add]
  rw [if_neg]
  intro hm
  have := h _ hm
  omega
theorem openV_push {ps : List PartT} {ins : List Nat} {x : PartT} : openV (ps ++ [x]) (ins ++ [ps.length]) = openV ps ins ++ [opnd x] := by
  apply List.ext_getElem?
  intro j
  rw [openV_get]
  by_cases hj : j < ps.length
  · rw [List.getElem?_append_left hj, List.getElem?_append_left (by rw [openV_len]; exact hj), openV_get]
    congr 1
    funext p
    have : (j ∈ ins ++ [ps.length]) ↔ j ∈ ins := by simp; omega
    by_cases hm : j ∈ ins
    · rw [if_pos hm, if_pos (this.2 hm)]
    · rw [if_neg hm, if_neg (fun h => hm (this.1 h))]
  · rw [List.getElem?_append_right (by omega), List.getElem?_append_right (by rw [openV_len]; omega), openV_len]
    rcases Nat.eq_or_lt_of_le (Nat.le_of_not_lt hj) with e | e
    · subst e
      simp
    · obtain ⟨m, hm⟩ : ∃ m, j - ps.length = m + 1 := ⟨j - ps.length - 1, by omega⟩
      rw [hm]; rfl

/-- one division is shut -/
theorem shut_one {ps : List PartT} {ins : List Nat} {i : Nat} {p : PartT} {run : Bool} (hp : ps[i]? = some p) (ho : p.opn = false) (hn : i ∉ ins) :
    frStep ⟨openV ps (ins ++ [i]), ins ++ [i], run⟩ shutB = ⟨openV ps ins, ins, false⟩ := by
  unfold frStep
  rw [shutB_fold.1, shutB_fold.2]
  simp only [Bool.false_eq_true, if_false, Bool.true_and]
  rw [if_pos (by simp)]
  have hg : (ins ++ [i]).getLast?.getD 0 = i := by simp
  have hd : (ins ++ [i]).dropLast = ins := by simp
  rw [hg, hd]
  congr 1
  unfold shutAt
  have hv : (openV ps (ins ++ [i]))[i]? = some (opnd p) := by rw [openV_get, hp]; simp
  rw [hv]
  simp only
  apply List.ext_getElem?
  intro j
  rw [List.getElem?_set, openV_get, openV_get, openV_len]
  have hil := (List.getElem?_eq_some_iff.1 hp).1
  by_cases hij : i = j
  · subst hij
    rw [if_pos rfl, if_pos hil, hp, Option.map_some, if_neg hn]
    obtain ⟨d, v, l, o, ls⟩ := p
    simp only at ho
    subst ho; rfl
  · rw [if_neg hij]
    congr 1
    funext q
    have : (j ∈ ins ++ [i]) ↔ j ∈ ins := by simp; omega
    by_cases hm : j ∈ ins
    · rw [if_pos hm, if_pos (this.2 hm)]
    · rw [if_neg hm, if_neg (fun h => hm (this.1 h))]
/-- as many as stand behind 'keep' are shut -/
theorem shut_more {ps : List PartT} : ∀ (tail keep : List Nat) (run : Bool), (keep ++ tail).Nodup → (∀ i ∈ tail, ∃ p, ps[i]? = some p ∧ p.opn = false) →
    (List.replicate tail.length shutB).foldl frStep ⟨openV ps (keep ++ tail), keep ++ tail, run⟩ = ⟨openV ps keep, keep, if tail = [] then run else false⟩ := by
  intro tail
  obtain ⟨n, hn⟩ : ∃ n, tail.length = n := ⟨_, rfl⟩
  induction n generalizing tail with
  | zero =>
    intro keep run _ _
    rw [List.eq_nil_of_length_eq_zero hn]
    simp
  | succ n ih =>
    obtain ⟨t, i, rfl⟩ : ∃ t i, tail = t ++ [i] := ⟨tail.dropLast, tail.getLast (List.ne_nil_of_length_pos (by omega)), (List.dropLast_concat_getLast _).symm⟩
    intro keep run hnd hop
    obtain ⟨p, hp, ho⟩ := hop i (by simp)
    have hnd' : (keep ++ t).Nodup := by
      rw [← List.append_assoc, List.nodup_append] at hnd
      exact hnd.1
    have hni : i ∉ keep ++ t := fun h => by
      rw [← List.append_assoc, List.nodup_append] at hnd
      exact hnd.2.2 i h i (by simp) rfl
    rw [List.length_append, List.length_singleton, Nat.add_comm, ← List.replicate_append_replicate, List.foldl_append]
    have h1 : (List.replicate 1 shutB).foldl frStep ⟨openV ps (keep ++ (t ++ [i])), keep ++ (t ++ [i]), run⟩ = ⟨openV ps (keep ++ t), keep ++ t, false⟩ := by
      rw [← List.append_assoc]
      exact shut_one hp ho hni
    rw [h1, ih t (by simpa using hn) keep false hnd' (fun j hj => hop j (by simp [hj]))]
    simp

/-- the lines of a run -/
theorem run_more (ps : List PartT) (ins : List Nat) (x : PartT) : ∀ (ls pre : List ByteArray), (∀ s ∈ ls, (opensT (L s)).2 = false ∧ (shutsT (L s) = true → ins = [])) →
    ls.foldl frStep ⟨ps ++ [{ x with lines := pre }], ins, true⟩ = ⟨ps ++ [{ x with lines := pre ++ ls }], ins, true⟩
  | [], pre, _ => by simp
  | s :: t, pre, h => by
    obtain ⟨h1, h2⟩ := h s (by simp)
    have hs : (shutsT (L s) && decide (0 < ins.length)) = false := by
      cases hsh : shutsT (L s)
      · rfl
      · rw [h2 hsh]; rfl
    rw [List.foldl_cons]
    have e : frStep ⟨ps ++ [{ x with lines := pre }], ins, true⟩ s = ⟨ps ++ [{ x with lines := pre ++ [s] }], ins, true⟩ := by
      unfold frStep
      rw [h1, hs]
      simp [addLast]
    rw [e, run_more ps ins x t (pre ++ [s]) (fun y hy => h y (by simp [hy]))]
    simp

/-- how far parts that may be have been written and read again -/
structure TInv (ps : List PartT) (rs : RtS) (ws : WrS) (ins : List Nat) : Prop where
  lt : ∀ i ∈ ins, i < ps.length
  nodup : ins.Nodup
  len : (ins.length : Int) = rs.most
  least : 0 ≤ rs.least
  inn : ws.inn = rs.inn.take ins.length
  path : ins.map (fun i => ps[i]?) = ws.inn.map some
  opens : ∀ (k : Nat) (p : PartT), ws.inn[k]? = some p → (p.opn = true ↔ (k : Int) < rs.least)
  fr : ∃ run, frT ws.out = ⟨openV ps ins, ins, run⟩ ∧ (run = true → ∃ q, rs.prev = some q ∧ q.div = false ∧ q.depth = rs.most)

theorem notOpn_all {l : List PartT} (h : ∀ p ∈ l, p.opn = false) : notOpn l = l.length := by
  unfold notOpn
  rw [List.countP_eq_length]
  intro p hp
  rw [h p hp]; rfl

theorem TInv.step {ps : List PartT} {rs rs' : RtS} {ws : WrS} {ins : List Nat} {x : PartT} (h : TInv ps rs ws ins) (hx : rtStep rs x = some rs') : ∃ ins', TInv (ps ++ [x]) rs' (wrStep ws x) ins' := by
  obtain ⟨g1, g2, g3, g4, g5, rfl⟩ := rtStep_some hx
  obtain ⟨run, hfr, hrun⟩ := h.fr
  have hl0 := h.least
  have hlen := h.len
  obtain ⟨d, hd⟩ : ∃ d : Nat, x.depth = d := ⟨x.depth.toNat, by omega⟩
  have hdt : x.depth.toNat = d := by omega
  have hdi : d ≤ ins.length := by omega
  have hwl : ws.inn.length = ins.length := by
    have := congrArg List.length h.path
    simpa using this.symm
  -- what is shut ahead of it
  have htail : ∀ i ∈ ins.drop d, ∃ p, ps[i]? = some p ∧ p.opn = false := by
    intro i hi
    obtain ⟨k, hk⟩ := List.mem_iff_getElem?.1 hi
    rw [List.getElem?_drop] at hk
    have h1 : (ins.map (fun i => ps[i]?))[d + k]? = some (ps[i]?) := by rw [List.getElem?_map, hk]; rfl
    rw [h.path, List.getElem?_map] at h1
    obtain ⟨p, hp, e⟩ := Option.map_eq_some_iff.1 h1
    refine ⟨p, e.symm, ?_⟩
    cases hpo : p.opn
    · rfl
    · have := (h.opens _ p hp).1 hpo
      omega
  have hno : notOpn (ws.inn.drop d) = (ins.drop d).length := by
    rw [notOpn_all, List.length_drop, List.length_drop, hwl]
    intro p hp
    obtain ⟨k, hk⟩ := List.mem_iff_getElem?.1 hp
    rw [List.getElem?_drop] at hk
    cases hpo : p.opn
    · rfl
    · have := (h.opens _ p hk).1 hpo
      omega
  have hshut := shut_more (ps := ps) (ins.drop d) (ins.take d) run (by rw [List.take_append_drop]; exact h.nodup) htail
  rw [List.take_append_drop] at hshut
  have hlt' : ∀ i ∈ ins.take d, i < ps.length := fun i hi => h.lt i (List.mem_of_mem_take hi)
  have htl : (ins.take d).length = d := by rw [List.length_take]; omega
  have hnd : (ins.take d).Nodup := h.nodup.sublist (List.take_sublist _ _)
  have hpath : (ins.take d).map (fun i => (ps ++ [x])[i]?) = (ws.inn.take d).map some := by
    have e1 : (ins.take d).map (fun i => (ps ++ [x])[i]?) = (ins.take d).map (fun i => ps[i]?) := List.map_congr_left fun i hi => by
      rw [List.getElem?_append_left (hlt' i hi)]
    rw [e1, List.map_take, h.path, List.map_take]
  have hinn : ws.inn.take d = rs.inn.take d := by rw [h.inn, List.take_take, Nat.min_eq_left hdi]
  cases hv : x.div
  · -- a run
    obtain ⟨p1, p2, p3, p4⟩ := part_run g3 hv
    obtain ⟨s, t, hst⟩ : ∃ s t, x.lines = s :: t := by
      cases hxl : x.lines with
      | nil => exact absurd hxl p1
      | cons s t => exact ⟨s, t, rfl⟩
    have hsafe : ∀ y ∈ x.lines, (opensT (L y)).2 = false ∧ (shutsT (L y) = true → ins.take d = []) := fun y hy => by
      obtain ⟨q1, q2, _⟩ := p4 y hy
      refine ⟨q1, fun hsh => ?_⟩
      have := q2 hsh
      have : d = 0 := by omega
      rw [this]; rfl
    -- no run goes on
    have hrun0 : (if ins.drop d = [] then run else false) = false := by
      split
      · rename_i he
        cases hr : run
        · rfl
        · obtain ⟨q, hq, hqd, hqm⟩ := hrun hr
          have hil : ins.length ≤ d := by
            have := congrArg List.length he
            rw [List.length_drop, List.length_nil] at this
            omega
          rw [hq] at g4
          unfold clash at g4
          simp only [hv, hqd] at g4
          simp at g4
          omega
      · rfl
    rw [hrun0] at hshut
    have hxe : x = { x with lines := [] ++ (s :: t) } := by rw [List.nil_append, ← hst]
    have hopn : x.opn = false := p3
    refine ⟨ins.take d, ?_, hnd, ?_, ?_, ?_, ?_, ?_, ?_⟩
    · intro i hi
      have := hlt' i hi
      simp; omega
    · simp [htl, hd]
    · simp only [hopn]; simp; exact hl0
    · unfold wrStep rtIn
      simp only [hv, hdt, htl]
      rw [List.take_append_of_le_length (by rw [List.length_take]; have := congrArg List.length hinn; simp only [List.length_take] at this; omega)]
      simp only [Bool.false_eq_true, if_false, List.append_nil]
      rw [hinn, List.take_take, Nat.min_self]
    · unfold wrStep
      simp only [hv, hdt]
      simpa using hpath
    · intro k p hk
      unfold wrStep at hk
      simp only [hv, hdt, hopn] at hk ⊢
      simp only [Bool.false_eq_true, if_false, List.append_nil] at hk ⊢
      rw [List.getElem?_take] at hk
      split at hk
      · exact h.opens k p hk
      · cases hk
    · refine ⟨true, ?_, fun _ => ⟨x, rfl, hv, by simp⟩⟩
      unfold wrStep
      simp only [hv, hdt, hno, Bool.false_eq_true, if_false, List.append_nil]
      rw [frT_app, frT_app, hfr, hshut, hst, List.foldl_cons]
      obtain ⟨q1, q2⟩ := hsafe s (by rw [hst]; simp)
      have hs : (shutsT (L s) && decide (0 < (ins.take d).length)) = false := by
        cases hsh : shutsT (L s)
        · rfl
        · rw [q2 hsh]; rfl
      have e : frStep ⟨openV ps (ins.take d), ins.take d, false⟩ s = ⟨openV ps (ins.take d) ++ [{ x with lines := [] ++ [s] }], ins.take d, true⟩ := by
        unfold frStep
        rw [q1, hs]
        simp only [Bool.false_eq_true, if_false]
        rw [htl, ← hd]
        obtain ⟨xd, xv, xl, xo, xs⟩ := x
        simp only at hv p2 hopn ⊢
        subst hv; subst p2; subst hopn
        rfl
      rw [e, run_more _ _ x t ([] ++ [s]) (fun y hy => hsafe y (by rw [hst]; simp [hy]))]
      rw [openV_snoc hlt']
      congr 3
      rw [List.nil_append, List.singleton_append, ← hst]
  · -- a division
    obtain ⟨p1, p2⟩ := part_div g3 hv
    have hpos : (ws.inn.take d).length = d := by rw [List.length_take]; omega
    refine ⟨ins.take d ++ [ps.length], ?_, ?_, ?_, ?_, ?_, ?_, ?_, ?_⟩
    · intro i hi
      rcases List.mem_append.1 hi with hi | hi
      · have := hlt' i hi
        simp; omega
      · rw [List.mem_singleton.1 hi]; simp
    · rw [List.nodup_append]
      refine ⟨hnd, by simp, fun a ha b hb e => ?_⟩
      rw [List.mem_singleton.1 hb] at e
      have := hlt' a ha
      omega
    · simp [htl, hd]
    · show 0 ≤ (if x.opn = true then x.depth + 1 else rs.least)
      split <;> omega
    · unfold wrStep rtIn
      simp only [hv, hdt, if_true]
      rw [hinn, List.take_of_length_le (l := List.take d rs.inn ++ [x]) (by rw [List.length_append, List.length_append, List.length_take, htl, List.length_singleton, List.length_singleton]; omega)]
    · unfold wrStep
      simp only [hv, hdt, if_true]
      rw [List.map_append, List.map_append, hpath]
      simp
    · intro k p hk
      unfold wrStep at hk
      simp only [hv, hdt, if_true] at hk
      by_cases hkd : k < d
      · rw [List.getElem?_append_left (by omega), List.getElem?_take, if_pos hkd] at hk
        have h1 := h.opens k p hk
        show p.opn = true ↔ (k : Int) < (if x.opn = true then x.depth + 1 else rs.least)
        cases hxo : x.opn
        · simpa using h1
        · have := g5 hxo p (by
            rw [hdt, ← hinn]
            exact List.mem_of_getElem? (i := k) (by rw [List.getElem?_take, if_pos hkd]; exact hk))
          rw [this]
          simp
          omega
      · by_cases hke : k = d
        · rw [List.getElem?_append_right (by omega), hpos, hke, Nat.sub_self] at hk
          simp at hk
          rw [← hk, hke]
          show x.opn = true ↔ (d : Int) < (if x.opn = true then x.depth + 1 else rs.least)
          cases hxo : x.opn
          · simp; omega
          · simp; omega
        · rw [List.getElem?_eq_none (by simp; omega)] at hk
          cases hk
    · refine ⟨false, ?_, fun hf => by cases hf⟩
      unfold wrStep
      simp only [hv, hdt, hno, if_true, p1, List.append_nil]
      rw [frT_app, frT_app, hfr, hshut, List.foldl_cons, List.foldl_nil]
      unfold frStep
      rw [opens_openB p2]
      simp only [if_true]
      rw [openV_push, openV_len, htl, ← hd]
      congr 3
      obtain ⟨xd, xv, xl, xo, xs⟩ := x
      simp only at hv p1 ⊢
      subst hv; subst p1
      rfl

theorem TInv.fold : ∀ (xs ps : List PartT) (rs rs' : RtS) (ws : WrS) (ins : List Nat), TInv ps rs ws ins → rtFold (some rs) xs = some rs' → ∃ ins', TInv (ps ++ xs) rs' (xs.foldl wrStep ws) ins'
  | [], ps, rs, rs', ws, ins, h, he => by
    have : rs = rs' := Option.some.inj he
    subst this
    exact ⟨ins, by rw [List.append_nil]; exact h⟩
  | x :: t, ps, rs, rs', ws, ins, h, he => by
    have he' : rtFold (rtStep rs x) t = some rs' := he
    rcases hs : rtStep rs x with _ | rs1
    · rw [hs, rtFold_none] at he'; cases he'
    · rw [hs] at he'
      obtain ⟨ins1, h1⟩ := h.step hs
      obtain ⟨ins', h2⟩ := TInv.fold t (ps ++ [x]) rs1 rs' (wrStep ws x) ins1 h1 he'
      exact ⟨ins', by rw [List.append_assoc] at h2; exact h2⟩

/-- parts that may be are the parts of their lines -/
theorem turns_law {ps : List PartT} (h : right6 ps = true) : (frT (lines6 ps)).out = ps := by
  obtain ⟨rs, hrs⟩ := Option.isSome_iff_exists.1 h
  obtain ⟨ins, hT⟩ := TInv.fold ps [] rtInit rs wrInit [] ⟨by simp, by simp, rfl, Int.le_refl _, rfl, rfl, by simp [wrInit], false, rfl, fun h => by cases h⟩ hrs
  rw [List.nil_append] at hT
  obtain ⟨run, hfr, _⟩ := hT.fr
  have hws : ps.foldl wrStep wrInit = wrFold ps := rfl
  rw [hws] at hT hfr
  unfold lines6
  rw [frT_app, hfr]
  have hwl : (wrFold ps).inn.length = ins.length := by
    have := congrArg List.length hT.path
    simpa using this.symm
  -- the open ones lie ahead
  obtain ⟨m, hm⟩ : ∃ m : Nat, rs.least = m := ⟨rs.least.toNat, by have := hT.least; omega⟩
  have hsplit : notOpn (wrFold ps).inn = (ins.drop m).length := by
    have h1 : notOpn ((wrFold ps).inn.take m) = 0 := by
      unfold notOpn
      rw [List.countP_eq_zero]
      intro p hp
      obtain ⟨k, hk⟩ := List.mem_iff_getElem?.1 hp
      rw [List.getElem?_take] at hk
      split at hk
      · have := (hT.opens k p hk).2 (by omega)
        simp [this]
      · cases hk
    have h2 : notOpn ((wrFold ps).inn.drop m) = ((wrFold ps).inn.drop m).length := notOpn_all fun p hp => by
      obtain ⟨k, hk⟩ := List.mem_iff_getElem?.1 hp
      rw [List.getElem?_drop] at hk
      cases hpo : p.opn
      · rfl
      · have := (hT.opens _ p hk).1 hpo
        omega
    have h3 : notOpn (wrFold ps).inn = notOpn ((wrFold ps).inn.take m) + notOpn ((wrFold ps).inn.drop m) := by
      unfold notOpn
      rw [← List.countP_append, List.take_append_drop]
    rw [h3, h1, h2, List.length_drop, List.length_drop, hwl]; omega
  rw [hsplit]
  have hget : ∀ (k i : Nat), ins[k]? = some i → ∃ p, ps[i]? = some p ∧ (wrFold ps).inn[k]? = some p := by
    intro k i hk
    have h1 : (ins.map (fun i => ps[i]?))[k]? = some (ps[i]?) := by rw [List.getElem?_map, hk]; rfl
    rw [hT.path, List.getElem?_map] at h1
    obtain ⟨p, hp, e⟩ := Option.map_eq_some_iff.1 h1
    exact ⟨p, e.symm, hp⟩
  have htail : ∀ i ∈ ins.drop m, ∃ p, ps[i]? = some p ∧ p.opn = false := by
    intro i hi
    obtain ⟨k, hk⟩ := List.mem_iff_getElem?.1 hi
    rw [List.getElem?_drop] at hk
    obtain ⟨p, hp, hw⟩ := hget _ i hk
    refine ⟨p, hp, ?_⟩
    cases hpo : p.opn
    · rfl
    · have := (hT.opens _ p hw).1 hpo
      omega
  have hshut := shut_more (ps := ps) (ins.drop m) (ins.take m) run (by rw [List.take_append_drop]; exact hT.nodup) htail
  rw [List.take_append_drop] at hshut
  rw [hshut]
  refine openV_all fun i hi p hp => ?_
  obtain ⟨k, hk⟩ := List.mem_iff_getElem?.1 hi
  rw [List.getElem?_take] at hk
  split at hk
  · obtain ⟨p', hp', hw⟩ := hget _ i hk
    rw [hp'] at hp
    rw [← Option.some.inj hp]
    exact (hT.opens _ p' hw).2 (by omega)
  · cases hk
end Go.Proofs.YteeoohnkfdffnaaGreatDoor
