/- Joined texts: TurnsLaw, BackLaw, VeilTwiceLaw, RefWriteLaw. -/
import Derived.Test.YtgdnphmannbpgaaGreatDoorGG
import Derived.Test.YtgdnphmannbpgaaGreatDoorGI
import Derived.Test.YtgdnphmannbpgaaGreatDoorGE
import Derived.Test.YtgdnphmannbpgaaGreatDoorGF
import Derived.Test.YtgdnphmannbpgaaGreatDoorGW
/-
  Parts that may be are the parts of their lines: the plain law.
-/
namespace Go.Proofs.YtgdnphmannbpgaaGreatDoor

def opnd (p : PartT) : PartT := { p with opn := true }
/-- the parts of a frame of which some are open yet -/
def openV (ps : List PartT) (ins : List Nat) : List PartT := ps.mapIdx fun j p => if j ∈ ins then opnd p else p

theorem openV_len (ps : List PartT) (ins : List Nat) : (openV ps ins).length = ps.length := by simp [openV]
theorem openV_get (ps : List PartT) (ins : List Nat) (j : Nat) : (openV ps ins)[j]? = (ps[j]?).map fun p => if j ∈ ins then opnd p else p := by
  unfold openV; rw [List.getElem?_mapIdx]
theorem openV_nil (ps : List PartT) : openV ps [] = ps := by
  apply List.ext_getElem?
  intro j
  rw [openV_get]
  simp
theorem openV_all {ps : List PartT} {ins : List Nat} (h : ∀ i ∈ ins, ∀ p, ps[i]? = some p → p.opn = true) : openV ps ins = ps := by
  apply List.ext_getElem?
  intro j
  rw [openV_get]
  rcases hj : ps[j]? with _ | p
  · rfl
  · rw [Option.map_some]
    split
    · rename_i hm
      have := h j hm p hj
      obtain ⟨d, v, l, o, ls⟩ := p
      simp only at this
      subst this; rfl
    · rfl
theorem openV_snoc {ps : List PartT} {ins : List Nat} {x : PartT} (h : ∀ i ∈ ins, i < ps.length) : openV (ps ++ [x]) ins = openV ps ins ++ [x] := by
  unfold openV
  rw [List.mapIdx_append]
  congr 1
  simp only [List.mapIdx_cons, List.mapIdx_nil, Nat.zero_add]
  rw [if_neg]
  intro hm
  have := h _ hm
  omega
theorem openV_push {ps : List PartT} {ins : List Nat} {x : PartT} : openV (ps ++ [x]) (ins ++ [ps.length]) = openV ps ins ++ [opnd x] := by
  apply List.ext_getElem?
  intro j
  rw [openV_get]
  by_cases hj : j < ps.length
  · rw [List.getElem?_append_left hj, List.getElem?_append_left (by rw [openV_len]; exact hj), openV_get]
    congr 1
    funext p
    have : (j ∈ ins ++ [ps.length]) ↔ j ∈ ins := by simp; omega
    by_cases hm : j ∈ ins
    · rw [if_pos hm, if_pos (this.2 hm)]
    · rw [if_neg hm, if_neg (fun h => hm (this.1 h))]
  · rw [List.getElem?_append_right (by omega), List.getElem?_append_right (by rw [openV_len]; omega), openV_len]
    rcases Nat.eq_or_lt_of_le (Nat.le_of_not_lt hj) with e | e
    · subst e
      simp
    · obtain ⟨m, hm⟩ : ∃ m, j - ps.length = m + 1 := ⟨j - ps.length - 1, by omega⟩
      rw [hm]; rfl

/-- one division is shut -/
theorem shut_one {ps : List PartT} {ins : List Nat} {i : Nat} {p : PartT} {run : Bool} (hp : ps[i]? = some p) (ho : p.opn = false) (hn : i ∉ ins) :
    frStep ⟨openV ps (ins ++ [i]), ins ++ [i], run⟩ shutB = ⟨openV ps ins, ins, false⟩ := by
  unfold frStep
  rw [shutB_fold.1, shutB_fold.2]
  simp only [Bool.false_eq_true, if_false, Bool.true_and]
  rw [if_pos (by simp)]
  have hg : (ins ++ [i]).getLast?.getD 0 = i := by simp
  have hd : (ins ++ [i]).dropLast = ins := by simp
  rw [hg, hd]
  congr 1
  unfold shutAt
  have hv : (openV ps (ins ++ [i]))[i]? = some (opnd p) := by rw [openV_get, hp]; simp
  rw [hv]
  simp only
  apply List.ext_getElem?
  intro j
  rw [List.getElem?_set, openV_get, openV_get, openV_len]
  have hil := (List.getElem?_eq_some_iff.1 hp).1
  by_cases hij : i = j
  · subst hij
    rw [if_pos rfl, if_pos hil, hp, Option.map_some, if_neg hn]
    obtain ⟨d, v, l, o, ls⟩ := p
    simp only at ho
    subst ho; rfl
  · rw [if_neg hij]
    congr 1
    funext q
    have : (j ∈ ins ++ [i]) ↔ j ∈ ins := by simp; omega
    by_cases hm : j ∈ ins
    · rw [if_pos hm, if_pos (this.2 hm)]
    · rw [if_neg hm, if_neg (fun h => hm (this.1 h))]
/-- as many as stand behind 'keep' are shut -/
theorem shut_more {ps : List PartT} : ∀ (tail keep : List Nat) (run : Bool), (keep ++ tail).Nodup → (∀ i ∈ tail, ∃ p, ps[i]? = some p ∧ p.opn = false) →
    (List.replicate tail.length shutB).foldl frStep ⟨openV ps (keep ++ tail), keep ++ tail, run⟩ = ⟨openV ps keep, keep, if tail = [] then run else false⟩ := by
  intro tail
  obtain ⟨n, hn⟩ : ∃ n, tail.length = n := ⟨_, rfl⟩
  induction n generalizing tail with
  | zero =>
    intro keep run _ _
    rw [List.eq_nil_of_length_eq_zero hn]
    simp
  | succ n ih =>
    obtain ⟨t, i, rfl⟩ : ∃ t i, tail = t ++ [i] := ⟨tail.dropLast, tail.getLast (List.ne_nil_of_length_pos (by omega)), (List.dropLast_concat_getLast _).symm⟩
    intro keep run hnd hop
    obtain ⟨p, hp, ho⟩ := hop i (by simp)
    have hnd' : (keep ++ t).Nodup := by
      rw [← List.append_assoc, List.nodup_append] at hnd
      exact hnd.1
    have hni : i ∉ keep ++ t := fun h => by
      rw [← List.append_assoc, List.nodup_append] at hnd
      exact hnd.2.2 i h i (by simp) rfl
    rw [List.length_append, List.length_singleton, Nat.add_comm, ← List.replicate_append_replicate, List.foldl_append]
    have h1 : (List.replicate 1 shutB).foldl frStep ⟨openV ps (keep ++ (t ++ [i])), keep ++ (t ++ [i]), run⟩ = ⟨openV ps (keep ++ t), keep ++ t, false⟩ := by
      rw [← List.append_assoc]
      exact shut_one hp ho hni
    rw [h1, ih t (by simpa using hn) keep false hnd' (fun j hj => hop j (by simp [hj]))]
    simp

/-- the lines of a run -/
theorem run_more (ps : List PartT) (ins : List Nat) (x : PartT) : ∀ (ls pre : List ByteArray), (∀ s ∈ ls, (opensT (L s)).2 = false ∧ (shutsT (L s) = true → ins = [])) →
    ls.foldl frStep ⟨ps ++ [{ x with lines := pre }], ins, true⟩ = ⟨ps ++ [{ x with lines := pre ++ ls }], ins, true⟩
  | [], pre, _ => by simp
  | s :: t, pre, h => by
    obtain ⟨h1, h2⟩ := h s (by simp)
    have hs : (shutsT (L s) && decide (0 < ins.length)) = false := by
      cases hsh : shutsT (L s)
      · rfl
      · rw [h2 hsh]; rfl
    rw [List.foldl_cons]
    have e : frStep ⟨ps ++ [{ x with lines := pre }], ins, true⟩ s = ⟨ps ++ [{ x with lines := pre ++ [s] }], ins, true⟩ := by
      unfold frStep
      rw [h1, hs]
      simp [addLast]
    rw [e, run_more ps ins x t (pre ++ [s]) (fun y hy => h y (by simp [hy]))]
    simp

/-- how far parts that may be have been written and read again -/
structure TInv (ps : List PartT) (rs : RtS) (ws : WrS) (ins : List Nat) : Prop where
  lt : ∀ i ∈ ins, i < ps.length
  nodup : ins.Nodup
  len : (ins.length : Int) = rs.most
  least : 0 ≤ rs.least
  inn : ws.inn = rs.inn.take ins.length
  path : ins.map (fun i => ps[i]?) = ws.inn.map some
  opens : ∀ (k : Nat) (p : PartT), ws.inn[k]? = some p → (p.opn = true ↔ (k : Int) < rs.least)
  fr : ∃ run, frT ws.out = ⟨openV ps ins, ins, run⟩ ∧ (run = true → ∃ q, rs.prev = some q ∧ q.div = false ∧ q.depth = rs.most)

theorem notOpn_all {l : List PartT} (h : ∀ p ∈ l, p.opn = false) : notOpn l = l.length := by
  unfold notOpn
  rw [List.countP_eq_length]
  intro p hp
  rw [h p hp]; rfl

theorem TInv.step {ps : List PartT} {rs rs' : RtS} {ws : WrS} {ins : List Nat} {x : PartT} (h : TInv ps rs ws ins) (hx : rtStep rs x = some rs') : ∃ ins', TInv (ps ++ [x]) rs' (wrStep ws x) ins' := by
  obtain ⟨g1, g2, g3, g4, g5, rfl⟩ := rtStep_some hx
  obtain ⟨run, hfr, hrun⟩ := h.fr
  have hl0 := h.least
  have hlen := h.len
  obtain ⟨d, hd⟩ : ∃ d : Nat, x.depth = d := ⟨x.depth.toNat, by omega⟩
  have hdt : x.depth.toNat = d := by omega
  have hdi : d ≤ ins.length := by omega
  have hwl : ws.inn.length = ins.length := by
    have := congrArg List.length h.path
    simpa using this.symm
  -- what is shut ahead of it
  have htail : ∀ i ∈ ins.drop d, ∃ p, ps[i]? = some p ∧ p.opn = false := by
    intro i hi
    obtain ⟨k, hk⟩ := List.mem_iff_getElem?.1 hi
    rw [List.getElem?_drop] at hk
    have h1 : (ins.map (fun i => ps[i]?))[d + k]? = some (ps[i]?) := by rw [List.getElem?_map, hk]; rfl
    rw [h.path, List.getElem?_map] at h1
    obtain ⟨p, hp, e⟩ := Option.map_eq_some_iff.1 h1
    refine ⟨p, e.symm, ?_⟩
    cases hpo : p.opn
    · rfl
    · have := (h.opens _ p hp).1 hpo
      omega
  have hno : notOpn (ws.inn.drop d) = (ins.drop d).length := by
    rw [notOpn_all, List.length_drop, List.length_drop, hwl]
    intro p hp
    obtain ⟨k, hk⟩ := List.mem_iff_getElem?.1 hp
    rw [List.getElem?_drop] at hk
    cases hpo : p.opn
    · rfl
    · have := (h.opens _ p hk).1 hpo
      omega
  have hshut := shut_more (ps := ps) (ins.drop d) (ins.take d) run (by rw [List.take_append_drop]; exact h.nodup) htail
  rw [List.take_append_drop] at hshut
  have hlt' : ∀ i ∈ ins.take d, i < ps.length := fun i hi => h.lt i (List.mem_of_mem_take hi)
  have htl : (ins.take d).length = d := by rw [List.length_take]; omega
  have hnd : (ins.take d).Nodup := h.nodup.sublist (List.take_sublist _ _)
  have hpath : (ins.take d).map (fun i => (ps ++ [x])[i]?) = (ws.inn.take d).map some := by
    have e1 : (ins.take d).map (fun i => (ps ++ [x])[i]?) = (ins.take d).map (fun i => ps[i]?) := List.map_congr_left fun i hi => by
      rw [List.getElem?_append_left (hlt' i hi)]
    rw [e1, List.map_take, h.path, List.map_take]
  have hinn : ws.inn.take d = rs.inn.take d := by rw [h.inn, List.take_take, Nat.min_eq_left hdi]
  cases hv : x.div
  · -- a run
    obtain ⟨p1, p2, p3, p4⟩ := part_run g3 hv
    obtain ⟨s, t, hst⟩ : ∃ s t, x.lines = s :: t := by
      cases hxl : x.lines with
      | nil => exact absurd hxl p1
      | cons s t => exact ⟨s, t, rfl⟩
    have hsafe : ∀ y ∈ x.lines, (opensT (L y)).2 = false ∧ (shutsT (L y) = true → ins.take d = []) := fun y hy => by
      obtain ⟨q1, q2, _⟩ := p4 y hy
      refine ⟨q1, fun hsh => ?_⟩
      have := q2 hsh
      have : d = 0 := by omega
      rw [this]; rfl
    -- no run goes on
    have hrun0 : (if ins.drop d = [] then run else false) = false := by
      split
      · rename_i he
        cases hr : run
        · rfl
        · obtain ⟨q, hq, hqd, hqm⟩ := hrun hr
          have hil : ins.length ≤ d := by
            have := congrArg List.length he
            rw [List.length_drop, List.length_nil] at this
            omega
          rw [hq] at g4
          unfold clash at g4
          simp only [hv, hqd] at g4
          simp at g4
          omega
      · rfl
    rw [hrun0] at hshut
    have hxe : x = { x with lines := [] ++ (s :: t) } := by rw [List.nil_append, ← hst]
    have hopn : x.opn = false := p3
    refine ⟨ins.take d, ?_, hnd, ?_, ?_, ?_, ?_, ?_, ?_⟩
    · intro i hi
      have := hlt' i hi
      simp; omega
    · simp [htl, hd]
    · simp only [hopn]; simp; exact hl0
    · unfold wrStep rtIn
      simp only [hv, hdt, htl]
      rw [List.take_append_of_le_length (by rw [List.length_take]; have := congrArg List.length hinn; simp only [List.length_take] at this; omega)]
      simp only [Bool.false_eq_true, if_false, List.append_nil]
      rw [hinn, List.take_take, Nat.min_self]
    · unfold wrStep
      simp only [hv, hdt]
      simpa using hpath
    · intro k p hk
      unfold wrStep at hk
      simp only [hv, hdt, hopn] at hk ⊢
      simp only [Bool.false_eq_true, if_false, List.append_nil] at hk ⊢
      rw [List.getElem?_take] at hk
      split at hk
      · exact h.opens k p hk
      · cases hk
    · refine ⟨true, ?_, fun _ => ⟨x, rfl, hv, by simp⟩⟩
      unfold wrStep
      simp only [hv, hdt, hno, Bool.false_eq_true, if_false, List.append_nil]
      rw [frT_app, frT_app, hfr, hshut, hst, List.foldl_cons]
      obtain ⟨q1, q2⟩ := hsafe s (by rw [hst]; simp)
      have hs : (shutsT (L s) && decide (0 < (ins.take d).length)) = false := by
        cases hsh : shutsT (L s)
        · rfl
        · rw [q2 hsh]; rfl
      have e : frStep ⟨openV ps (ins.take d), ins.take d, false⟩ s = ⟨openV ps (ins.take d) ++ [{ x with lines := [] ++ [s] }], ins.take d, true⟩ := by
        unfold frStep
        rw [q1, hs]
        simp only [Bool.false_eq_true, if_false]
        rw [htl, ← hd]
        obtain ⟨xd, xv, xl, xo, xs⟩ := x
        simp only at hv p2 hopn ⊢
        subst hv; subst p2; subst hopn
        rfl
      rw [e, run_more _ _ x t ([] ++ [s]) (fun y hy => hsafe y (by rw [hst]; simp [hy]))]
      rw [openV_snoc hlt']
      congr 3
      rw [List.nil_append, List.singleton_append, ← hst]
  · -- a division
    obtain ⟨p1, p2⟩ := part_div g3 hv
    have hpos : (ws.inn.take d).length = d := by rw [List.length_take]; omega
    refine ⟨ins.take d ++ [ps.length], ?_, ?_, ?_, ?_, ?_, ?_, ?_, ?_⟩
    · intro i hi
      rcases List.mem_append.1 hi with hi | hi
      · have := hlt' i hi
        simp; omega
      · rw [List.mem_singleton.1 hi]; simp
    · rw [List.nodup_append]
      refine ⟨hnd, by simp, fun a ha b hb e => ?_⟩
      rw [List.mem_singleton.1 hb] at e
      have := hlt' a ha
      omega
    · simp [htl, hd]
    · show 0 ≤ (if x.opn = true then x.depth + 1 else rs.least)
      split <;> omega
    · unfold wrStep rtIn
      simp only [hv, hdt, if_true]
      rw [hinn, List.take_of_length_le (l := List.take d rs.inn ++ [x]) (by rw [List.length_append, List.length_append, List.length_take, htl, List.length_singleton, List.length_singleton]; omega)]
    · unfold wrStep
      simp only [hv, hdt, if_true]
      rw [List.map_append, List.map_append, hpath]
      simp
    · intro k p hk
      unfold wrStep at hk
      simp only [hv, hdt, if_true] at hk
      by_cases hkd : k < d
      · rw [List.getElem?_append_left (by omega), List.getElem?_take, if_pos hkd] at hk
        have h1 := h.opens k p hk
        show p.opn = true ↔ (k : Int) < (if x.opn = true then x.depth + 1 else rs.least)
        cases hxo : x.opn
        · simpa using h1
        · have := g5 hxo p (by
            rw [hdt, ← hinn]
            exact List.mem_of_getElem? (i := k) (by rw [List.getElem?_take, if_pos hkd]; exact hk))
          rw [this]
          simp
          omega
      · by_cases hke : k = d
        · rw [List.getElem?_append_right (by omega), hpos, hke, Nat.sub_self] at hk
          simp at hk
          rw [← hk, hke]
          show x.opn = true ↔ (d : Int) < (if x.opn = true then x.depth + 1 else rs.least)
          cases hxo : x.opn
          · simp; omega
          · simp; omega
        · rw [List.getElem?_eq_none (by simp; omega)] at hk
          cases hk
    · refine ⟨false, ?_, fun hf => by cases hf⟩
      unfold wrStep
      simp only [hv, hdt, hno, if_true, p1, List.append_nil]
      rw [frT_app, frT_app, hfr, hshut, List.foldl_cons, List.foldl_nil]
      unfold frStep
      rw [opens_openB p2]
      simp only [if_true]
      rw [openV_push, openV_len, htl, ← hd]
      congr 3
      obtain ⟨xd, xv, xl, xo, xs⟩ := x
      simp only at hv p1 ⊢
      subst hv; subst p1
      rfl

theorem TInv.fold : ∀ (xs ps : List PartT) (rs rs' : RtS) (ws : WrS) (ins : List Nat), TInv ps rs ws ins → rtFold (some rs) xs = some rs' → ∃ ins', TInv (ps ++ xs) rs' (xs.foldl wrStep ws) ins'
  | [], ps, rs, rs', ws, ins, h, he => by
    have : rs = rs' := Option.some.inj he
    subst this
    exact ⟨ins, by rw [List.append_nil]; exact h⟩
  | x :: t, ps, rs, rs', ws, ins, h, he => by
    have he' : rtFold (rtStep rs x) t = some rs' := he
    rcases hs : rtStep rs x with _ | rs1
    · rw [hs, rtFold_none] at he'; cases he'
    · rw [hs] at he'
      obtain ⟨ins1, h1⟩ := h.step hs
      obtain ⟨ins', h2⟩ := TInv.fold t (ps ++ [x]) rs1 rs' (wrStep ws x) ins1 h1 he'
      exact ⟨ins', by rw [List.append_assoc] at h2; exact h2⟩

/-- parts that may be are the parts of their lines -/
theorem turns_law {ps : List PartT} (h : right6 ps = true) : (frT (lines6 ps)).out = ps := by
  obtain ⟨rs, hrs⟩ := Option.isSome_iff_exists.1 h
  obtain ⟨ins, hT⟩ := TInv.fold ps [] rtInit rs wrInit [] ⟨by simp, by simp, rfl, Int.le_refl _, rfl, rfl, by simp [wrInit], false, rfl, fun h => by cases h⟩ hrs
  rw [List.nil_append] at hT
  obtain ⟨run, hfr, _⟩ := hT.fr
  have hws : ps.foldl wrStep wrInit = wrFold ps := rfl
  rw [hws] at hT hfr
  unfold lines6
  rw [frT_app, hfr]
  have hwl : (wrFold ps).inn.length = ins.length := by
    have := congrArg List.length hT.path
    simpa using this.symm
  -- the open ones lie ahead
  obtain ⟨m, hm⟩ : ∃ m : Nat, rs.least = m := ⟨rs.least.toNat, by have := hT.least; omega⟩
  have hsplit : notOpn (wrFold ps).inn = (ins.drop m).length := by
    have h1 : notOpn ((wrFold ps).inn.take m) = 0 := by
      unfold notOpn
      rw [List.countP_eq_zero]
      intro p hp
      obtain ⟨k, hk⟩ := List.mem_iff_getElem?.1 hp
      rw [List.getElem?_take] at hk
      split at hk
      · have := (hT.opens k p hk).2 (by omega)
        simp [this]
      · cases hk
    have h2 : notOpn ((wrFold ps).inn.drop m) = ((wrFold ps).inn.drop m).length := notOpn_all fun p hp => by
      obtain ⟨k, hk⟩ := List.mem_iff_getElem?.1 hp
      rw [List.getElem?_drop] at hk
      cases hpo : p.opn
      · rfl
      · have := (hT.opens _ p hk).1 hpo
        omega
    have h3 : notOpn (wrFold ps).inn = notOpn ((wrFold ps).inn.take m) + notOpn ((wrFold ps).inn.drop m) := by
      unfold notOpn
      rw [← List.countP_append, List.take_append_drop]
    rw [h3, h1, h2, List.length_drop, List.length_drop, hwl]; omega
  rw [hsplit]
  have hget : ∀ (k i : Nat), ins[k]? = some i → ∃ p, ps[i]? = some p ∧ (wrFold ps).inn[k]? = some p := by
    intro k i hk
    have h1 : (ins.map (fun i => ps[i]?))[k]? = some (ps[i]?) := by rw [List.getElem?_map, hk]; rfl
    rw [hT.path, List.getElem?_map] at h1
    obtain ⟨p, hp, e⟩ := Option.map_eq_some_iff.1 h1
    exact ⟨p, e.symm, hp⟩
  have htail : ∀ i ∈ ins.drop m, ∃ p, ps[i]? = some p ∧ p.opn = false := by
    intro i hi
    obtain ⟨k, hk⟩ := List.mem_iff_getElem?.1 hi
    rw [List.getElem?_drop] at hk
    obtain ⟨p, hp, hw⟩ := hget _ i hk
    refine ⟨p, hp, ?_⟩
    cases hpo : p.opn
    · rfl
    · have := (hT.opens _ p hw).1 hpo
      omega
  have hshut := shut_more (ps := ps) (ins.drop m) (ins.take m) run (by rw [List.take_append_drop]; exact hT.nodup) htail
  rw [List.take_append_drop] at hshut
  rw [hshut]
  refine openV_all fun i hi p hp => ?_
  obtain ⟨k, hk⟩ := List.mem_iff_getElem?.1 hi
  rw [List.getElem?_take] at hk
  split at hk
  · obtain ⟨p', hp', hw⟩ := hget _ i hk
    rw [hp'] at hp
    rw [← Option.some.inj hp]
    exact (hT.opens _ p' hw).2 (by omega)
  · cases hk
end Go.Proofs.YtgdnphmannbpgaaGreatDoor
/-
  The parts of lines may be, and their lines are these lines, but blanks behind signs: the plain law.
-/
namespace Go.Proofs.YtgdnphmannbpgaaGreatDoor

/-- a line as it is written again -/
def BackOne (l w : ByteArray) : Prop := w = l ∨ L w = Lib.trimRightB (L l) 32
/-- lines as they are written again -/
def BackAll : List ByteArray → List ByteArray → Prop
  | [], [] => True
  | l :: ls, w :: ws => BackOne l w ∧ BackAll ls ws
  | _, _ => False
theorem BackAll.snoc : ∀ {ls ws : List ByteArray} {l w : ByteArray}, BackAll ls ws → BackOne l w → BackAll (ls ++ [l]) (ws ++ [w])
  | [], [], _, _, _, h => ⟨h, trivial⟩
  | _ :: _, _ :: _, _, _, ⟨h1, h2⟩, h => ⟨h1, h2.snoc h⟩
  | [], _ :: _, _, _, h, _ => h.elim
  | _ :: _, [], _, _, h, _ => h.elim
theorem BackAll.len : ∀ {ls ws : List ByteArray}, BackAll ls ws → ws.length = ls.length
  | [], [], _ => rfl
  | _ :: _, _ :: _, ⟨_, h⟩ => by simp [h.len]
  | [], _ :: _, h => h.elim
  | _ :: _, [], h => h.elim
theorem BackAll.get : ∀ {ls ws : List ByteArray}, BackAll ls ws → ∀ (i : Nat) (l : ByteArray), ls[i]? = some l → ∃ w, ws[i]? = some w ∧ BackOne l w
  | [], [], _, i, l, h => by simp at h
  | l0 :: ls, w0 :: ws, ⟨h1, _⟩, 0, l, h => ⟨w0, rfl, by simp at h; rw [← h]; exact h1⟩
  | l0 :: ls, w0 :: ws, ⟨_, h2⟩, i + 1, l, h => by
    obtain ⟨w, hw, ho⟩ := h2.get i l (by simpa using h)
    exact ⟨w, by simpa using hw, ho⟩
  | [], _ :: _, h, _, _, _ => h.elim
  | _ :: _, [], h, _, _, _ => h.elim

def shutP (p : PartT) : PartT := { p with opn := false }
/-- two states between which one part of the path is shut -/
structure RtRel (d : Nat) (x : PartT) (l : Int) (s s' : RtS) : Prop where
  most : s'.most = s.most
  least : s'.least = l
  le : l ≤ s.least
  prev : s'.prev.map (fun q => (q.div, q.depth)) = s.prev.map (fun q => (q.div, q.depth))
  lt : d < s.inn.length
  inn : s'.inn = s.inn.set d x
theorem clash_same {p q : Option PartT} (y : PartT) (h : q.map (fun q => (q.div, q.depth)) = p.map (fun q => (q.div, q.depth))) : clash q y = clash p y := by
  cases p <;> cases q <;> simp_all [clash]
theorem rtIn_set {s : RtS} {d : Nat} {x y : PartT} (hlt : d < s.inn.length) (hy : (d : Int) < y.depth) : (s.inn.set d x).take y.depth.toNat ++ [y] = (rtIn s y).set d x := by
  unfold rtIn
  rw [List.take_set, List.set_append_left _ _ (by rw [List.length_take]; omega)]
theorem RtRel.step {d : Nat} {x : PartT} {l : Int} {s s' s1 : RtS} {y : PartT} (h : RtRel d x l s s') (hy : y.opn = false) (hd : (d : Int) < y.depth) (hs : rtStep s y = some s1) : ∃ s1', rtStep s' y = some s1' ∧ RtRel d x l s1 s1' := by
  obtain ⟨g1, g2, g3, g4, _, rfl⟩ := rtStep_some hs
  have h1 := h.le
  have h2 := h.least
  have h3 := h.most
  have hlt := h.lt
  refine ⟨⟨if y.div then y.depth + 1 else y.depth, l, some y, (rtIn s y).set d x⟩, ?_, ⟨rfl, rfl, by show l ≤ (if y.opn = true then y.depth + 1 else s.least); rw [hy]; exact h1, rfl, ?_, rfl⟩⟩
  · unfold rtStep
    rw [if_neg (by rw [g3]; rintro (h | h | h) <;> first | omega | cases h), if_neg (by rw [clash_same y h.prev, g4]; decide), if_neg (by rw [hy]; simp)]
    rw [hy, h2]
    unfold rtIn
    rw [h.inn]
    have := rtIn_set (s := s) (x := x) (y := y) hlt hd
    unfold rtIn at this
    rw [this]
    rfl
  · show d < (rtIn s y).length
    unfold rtIn
    simp only [List.length_append, List.length_take, List.length_singleton]
    omega
theorem RtRel.fold {d : Nat} {x : PartT} {l : Int} : ∀ (post : List PartT) (s s' s1 : RtS), RtRel d x l s s' → (∀ y ∈ post, y.opn = false ∧ (d : Int) < y.depth) → rtFold (some s) post = some s1 → ∃ s1', rtFold (some s') post = some s1' ∧ RtRel d x l s1 s1'
  | [], s, s', s1, h, _, hs => by
    have : s = s1 := Option.some.inj hs
    subst this
    exact ⟨s', rfl, h⟩
  | y :: t, s, s', s1, h, hy, hs => by
    obtain ⟨y1, y2⟩ := hy y (by simp)
    have hs' : rtFold (rtStep s y) t = some s1 := hs
    rcases h0 : rtStep s y with _ | s2
    · rw [h0, rtFold_none] at hs'; cases hs'
    · rw [h0] at hs'
      obtain ⟨s2', k1, k2⟩ := h.step y1 y2 h0
      obtain ⟨s1', k3, k4⟩ := RtRel.fold t s2 s2' s1 k2 (fun z hz => hy z (by simp [hz])) hs'
      exact ⟨s1', by show rtFold (rtStep s' y) t = _; rw [k1]; exact k3, k4⟩
theorem part_shut {x : PartT} (hd : x.div = true) : partT (shutP x) = partT x := by
  unfold partT shutP
  simp only [hd, if_true]
/-- a part is shut -/
theorem rt_shut {s0 s1 : RtS} {x : PartT} {post : List PartT} (hd : x.div = true) (h0 : 0 ≤ s0.least) (hmi : s0.most ≤ (s0.inn.length : Int)) (hpost : ∀ y ∈ post, y.opn = false ∧ x.depth < y.depth) (hs : rtFold (some s0) (x :: post) = some s1) :
    ∃ s1', rtFold (some s0) (shutP x :: post) = some s1' ∧ RtRel x.depth.toNat (shutP x) s0.least s1 s1' ∧ s0.least ≤ x.depth := by
  have hs' : rtFold (rtStep s0 x) post = some s1 := hs
  rcases h1 : rtStep s0 x with _ | s2
  · rw [h1, rtFold_none] at hs'; cases hs'
  rw [h1] at hs'
  obtain ⟨g1, g2, g3, g4, _, rfl⟩ := rtStep_some h1
  have hx0 : (x.depth.toNat : Int) = x.depth := by omega
  have hstep : rtStep s0 (shutP x) = some ⟨x.depth + 1, s0.least, some (shutP x), (rtIn s0 x).set x.depth.toNat (shutP x)⟩ := by
    unfold rtStep
    rw [if_neg (by rw [part_shut hd, g3]; rintro (h | h | h) <;> first | (unfold shutP at h; simp only at h; omega) | cases h)]
    rw [if_neg (by unfold clash; unfold shutP; simp only [hd]; split <;> simp)]
    rw [if_neg (by unfold shutP; simp)]
    have : (rtIn s0 x).set x.depth.toNat (shutP x) = rtIn s0 (shutP x) := by
      unfold rtIn
      rw [List.set_append_right _ _ (by rw [List.length_take]; omega), List.length_take, Nat.min_eq_left (by omega), Nat.sub_self]
      rfl
    rw [this]
    unfold shutP
    simp only [hd, if_true]
    rfl
  have hrel : RtRel x.depth.toNat (shutP x) s0.least ⟨if x.div = true then x.depth + 1 else x.depth, if x.opn = true then x.depth + 1 else s0.least, some x, rtIn s0 x⟩ ⟨x.depth + 1, s0.least, some (shutP x), (rtIn s0 x).set x.depth.toNat (shutP x)⟩ :=
    ⟨by simp only [hd, if_true], rfl, by show s0.least ≤ (if x.opn = true then x.depth + 1 else s0.least); split <;> omega, rfl, by show x.depth.toNat < (rtIn s0 x).length; unfold rtIn; simp only [List.length_append, List.length_take, List.length_singleton]; omega, rfl⟩
  obtain ⟨s1', k1, k2⟩ := RtRel.fold post _ _ s1 hrel (fun y hy => by rw [hx0]; exact hpost y hy) hs'
  exact ⟨s1', by show rtFold (rtStep s0 (shutP x)) post = _; rw [hstep]; exact k1, k2, g1⟩

/-- the same of what is written -/
structure WrRel (d : Nat) (x : PartT) (s s' : WrS) : Prop where
  out : s'.out = s.out
  lt : d < s.inn.length
  inn : s'.inn = s.inn.set d x
theorem WrRel.step {d : Nat} {x : PartT} {s s' : WrS} {y : PartT} (h : WrRel d x s s') (hd : (d : Int) < y.depth) : WrRel d x (wrStep s y) (wrStep s' y) := by
  have hlt := h.lt
  refine ⟨?_, ?_, ?_⟩
  · unfold wrStep
    simp only
    rw [h.out, h.inn, List.drop_set, if_pos (by omega)]
  · unfold wrStep
    simp only [List.length_append, List.length_take]
    omega
  · unfold wrStep
    simp only
    rw [h.inn, List.take_set, List.set_append_left _ _ (by rw [List.length_take]; omega)]
theorem WrRel.fold {d : Nat} {x : PartT} : ∀ (post : List PartT) (s s' : WrS), WrRel d x s s' → (∀ y ∈ post, (d : Int) < y.depth) → WrRel d x (post.foldl wrStep s) (post.foldl wrStep s')
  | [], _, _, h, _ => h
  | y :: t, _, _, h, hy => WrRel.fold t _ _ (h.step (hy y (by simp))) (fun z hz => hy z (by simp [hz]))
theorem wr_shut {s0 : WrS} {x : PartT} {post : List PartT} (hd : x.div = true) (h0 : 0 ≤ x.depth) (hmi : x.depth ≤ (s0.inn.length : Int)) (hpost : ∀ y ∈ post, x.depth < y.depth) :
    WrRel x.depth.toNat (shutP x) ((x :: post).foldl wrStep s0) ((shutP x :: post).foldl wrStep s0) := by
  rw [List.foldl_cons, List.foldl_cons]
  refine WrRel.fold post _ _ ⟨?_, ?_, ?_⟩ (fun y hy => by have := hpost y hy; omega)
  · unfold wrStep shutP
    simp only [hd]
  · unfold wrStep
    simp only [hd, if_true, List.length_append, List.length_take, List.length_singleton]
    omega
  · unfold wrStep
    simp only [hd, if_true]
    rw [List.set_append_right _ _ (by rw [List.length_take]; omega), List.length_take, Nat.min_eq_left (by omega), Nat.sub_self]
    unfold shutP
    simp [hd]

theorem rtFold_app (s : Option RtS) (a b : List PartT) : rtFold s (a ++ b) = rtFold (rtFold s a) b := by unfold rtFold; rw [List.foldl_append]
theorem rtFold_pre {s : Option RtS} {a b : List PartT} {r : RtS} (h : rtFold s (a ++ b) = some r) : ∃ r0, rtFold s a = some r0 ∧ rtFold (some r0) b = some r := by
  rw [rtFold_app] at h
  rcases h0 : rtFold s a with _ | r0
  · rw [h0, rtFold_none] at h; cases h
  · rw [h0] at h; exact ⟨r0, rfl, h⟩
theorem rtOk_all {l : List PartT} {st : RtS} (h : rtFold (some rtInit) l = some st) : 0 ≤ st.least ∧ 0 ≤ st.most ∧ st.most ≤ (st.inn.length : Int) ∧ st.prev = l.getLast? := by
  have := rtOk_take l l.length st (Nat.le_refl _) (by rw [List.take_length]; exact h)
  obtain ⟨h1, h2, h3, _, h5⟩ := this
  refine ⟨h1, h2, h3, h5.trans ?_⟩
  cases l with
  | nil => rfl
  | cons a t => rw [if_neg (by simp), List.getLast?_eq_getElem?]

/-- what holds of a frame that is read so far -/
structure BInv (st : FrS) (rs : RtS) (ls : List ByteArray) : Prop where
  rt : rtFold (some rtInit) st.out = some rs
  least : rs.least ≤ (st.ins.length : Int)
  most : (st.ins.length : Int) ≤ rs.most
  inn : (wrFold st.out).inn = rs.inn.take rs.most.toNat
  len : ((wrFold st.out).inn.length : Int) = rs.most
  path : ∀ (i j : Nat), st.ins[i]? = some j → ∃ p, st.out[j]? = some p ∧ (wrFold st.out).inn[i]? = some p ∧ p.div = true ∧ p.opn = true ∧ p.depth = (i : Int)
  shut : ∀ (i : Nat) p, st.ins.length ≤ i → (wrFold st.out).inn[i]? = some p → p.opn = false
  deep : ∀ (i j : Nat), st.ins[i]? = some j → ∀ (j' : Nat) q, j < j' → st.out[j']? = some q → (i : Int) < q.depth
  opn : ∀ (j : Nat) q, st.out[j]? = some q → q.opn = true → j ∈ st.ins
  back : BackAll ls ((wrFold st.out).out ++ List.replicate ((wrFold st.out).inn.length - st.ins.length) shutB)
  run : st.run = true → ∃ (ini : List PartT) (p : PartT), st.out = ini ++ [p] ∧ p.div = false ∧ p.depth = (st.ins.length : Int) ∧ rs.most = (st.ins.length : Int)
  nrun : st.run = false → ∀ q, st.out.getLast? = some q → q.div = false → (st.ins.length : Int) < q.depth

theorem BInv.allOpn {st : FrS} {rs : RtS} {ls : List ByteArray} (h : BInv st rs ls) : ∀ y ∈ (wrFold st.out).inn.take st.ins.length, y.opn = true := by
  intro y hy
  obtain ⟨i, hi⟩ := List.mem_iff_getElem?.1 hy
  rw [List.getElem?_take] at hi
  split at hi
  · rename_i hlt
    obtain ⟨p, _, hw, _, ho, _⟩ := h.path i _ (List.getElem?_eq_getElem hlt)
    rw [hw] at hi
    rw [← Option.some.inj hi]; exact ho
  · cases hi
theorem BInv.pend {st : FrS} {rs : RtS} {ls : List ByteArray} (h : BInv st rs ls) : notOpn ((wrFold st.out).inn.drop st.ins.length) = (wrFold st.out).inn.length - st.ins.length := by
  rw [notOpn_all, List.length_drop]
  intro p hp
  obtain ⟨i, hi⟩ := List.mem_iff_getElem?.1 hp
  rw [List.getElem?_drop] at hi
  exact h.shut _ p (by omega) hi
theorem BInv.pend0 {st : FrS} {rs : RtS} {ls : List ByteArray} (h : BInv st rs ls) : notOpn (wrFold st.out).inn = (wrFold st.out).inn.length - st.ins.length := by
  rw [← h.pend]
  conv => lhs; rw [← List.take_append_drop st.ins.length (wrFold st.out).inn]
  unfold notOpn
  rw [List.countP_append]
  have : List.countP (fun y : PartT => !y.opn) ((wrFold st.out).inn.take st.ins.length) = 0 := by
    rw [List.countP_eq_zero]
    intro p hp
    simp [h.allOpn p hp]
  omega
theorem BInv.takes {st : FrS} {rs : RtS} {ls : List ByteArray} (h : BInv st rs ls) : (wrFold st.out).inn.take st.ins.length = rs.inn.take st.ins.length := by
  rw [h.inn, List.take_take, Nat.min_eq_left (by have := h.most; omega)]

theorem opens_inv {l lbl : List UInt8} (h : opensT l = (lbl, true)) : Lib.trimRightB l 32 = [58, 58, 58, 123] ++ lbl ++ [125] ∧ labelT lbl = true := by
  unfold opensT at h
  split at h
  · rename_i hp
    injection h with h1 h2
    rw [Bool.and_eq_true] at h2
    obtain ⟨h2, h3⟩ := h2
    rw [h1] at h3
    obtain ⟨r, hr⟩ := List.isPrefixOf_iff_prefix.1 hp
    obtain ⟨q, hq⟩ := List.isSuffixOf_iff_suffix.1 h2
    rw [← hr] at hq h1
    have e : (openL ++ r).drop 4 = r := rfl
    rw [e] at hq h1
    have : lbl = q := by
      rw [← h1, ← hq]
      exact (suffix_yes q 125).2
    rw [← hr, ← hq, this]
    exact ⟨by simp [openL], by rw [← this]; exact h3⟩
  · injection h with _ h2; cases h2

theorem BInv.push {st : FrS} {rs : RtS} {ls : List ByteArray} (h : BInv st rs ls) {s : ByteArray} {x : PartT} {w : ByteArray} (hx : x.depth = st.ins.length) (hp : partT x = true) (hc : clash rs.prev x = false) (hw : BackOne s w)
    (hl : (if x.div then [openB x.label] else []) ++ x.lines = [w]) (hxo : x.opn = x.div) (run' : Bool) (hr : run' = !x.div) :
    ∃ rs' : RtS, BInv ⟨st.out ++ [x], st.ins ++ (if x.div then [st.out.length] else []), run'⟩ rs' (ls ++ [s]) := by
  obtain ⟨k1, k2, k3, k4⟩ := rtOk_all h.rt
  have hm := h.most
  have hle := h.least
  have hdt : x.depth.toNat = st.ins.length := by omega
  have hlen := h.len
  have hins : ∀ i j, st.ins[i]? = some j → j < st.out.length := fun i j hij => by
    obtain ⟨p, hp, _⟩ := h.path i j hij
    exact (List.getElem?_eq_some_iff.1 hp).1
  have htl : ((wrFold st.out).inn.take st.ins.length).length = st.ins.length := by rw [List.length_take]; omega
  have hrt : rtStep rs x = some ⟨if x.div then x.depth + 1 else x.depth, if x.opn then x.depth + 1 else rs.least, some x, rtIn rs x⟩ := by
    unfold rtStep
    rw [if_neg (by rw [hp]; rintro (h | h | h) <;> first | omega | cases h), if_neg (by rw [hc]; decide), if_neg]
    intro hany
    rw [Bool.and_eq_true, List.any_eq_true] at hany
    obtain ⟨ho, y, hy, hyo⟩ := hany
    unfold rtIn at hy
    rw [hdt, ← h.takes, List.mem_append, List.mem_singleton] at hy
    rcases hy with hy | rfl
    · rw [h.allOpn y hy] at hyo; cases hyo
    · rw [ho] at hyo; cases hyo
  have hws : wrFold (st.out ++ [x]) = ⟨(wrFold st.out).out ++ List.replicate ((wrFold st.out).inn.length - st.ins.length) shutB ++ [w], (wrFold st.out).inn.take st.ins.length ++ (if x.div then [x] else [])⟩ := by
    rw [wrFold_snoc]
    unfold wrStep
    rw [hdt, h.pend]
    congr 1
    rw [List.append_assoc, hl]
  have hrin : rtIn rs x = (wrFold st.out).inn.take st.ins.length ++ [x] := by unfold rtIn; rw [hdt, h.takes]
  refine ⟨⟨if x.div then x.depth + 1 else x.depth, if x.opn then x.depth + 1 else rs.least, some x, rtIn rs x⟩, ?_⟩
  refine BInv.mk (by rw [rtFold_snoc, h.rt]; exact hrt) ?_ ?_ ?_ ?_ ?_ ?_ ?_ ?_ ?_ ?_ ?_
  · simp only [hxo]
    cases x.div <;> simp <;> omega
  · simp only
    cases x.div <;> simp <;> omega
  · rw [hws]
    simp only [hrin]
    cases x.div
    · simp only [Bool.false_eq_true, if_false, List.append_nil]
      rw [hdt]
      exact (List.take_left' htl).symm
    · simp only [if_true]
      exact (List.take_of_length_le (by rw [List.length_append, htl, List.length_singleton]; omega)).symm
  · rw [hws]
    simp only [List.length_append, htl]
    cases x.div <;> simp <;> omega
  · intro i j hij
    rw [hws]
    simp only
    by_cases hi : i < st.ins.length
    · simp only [List.getElem?_append_left hi] at hij
      obtain ⟨p, hp1, hp2, hp3⟩ := h.path i j hij
      refine ⟨p, by rw [List.getElem?_append_left (hins i j hij)]; exact hp1, ?_, hp3⟩
      rw [List.getElem?_append_left (by omega), List.getElem?_take, if_pos hi]
      exact hp2
    · rw [List.getElem?_append_right (by omega)] at hij
      cases hv : x.div
      · rw [hv] at hij; simp at hij
      · rw [hv] at hij hxo
        have hi0 : i - st.ins.length = 0 := by
          rcases Nat.eq_zero_or_pos (i - st.ins.length) with h | h
          · exact h
          · rw [List.getElem?_eq_none (by simp; omega)] at hij; cases hij
        rw [hi0] at hij
        simp at hij
        subst hij
        refine ⟨x, by simp, ?_, hv, hxo, by omega⟩
        rw [List.getElem?_append_right (by omega), htl, hi0]
        simp
  · intro i p hi hip
    rw [hws] at hip
    simp only at hip hi
    cases hv : x.div
    · rw [hv] at hip hi
      simp only [Bool.false_eq_true, if_false, List.append_nil] at hip hi
      rw [List.getElem?_eq_none (by omega)] at hip
      cases hip
    · rw [hv] at hip hi
      simp only [if_true, List.length_append, List.length_singleton] at hip hi
      rw [List.getElem?_eq_none (by rw [List.length_append, List.length_singleton]; omega)] at hip
      cases hip
  · intro i j hij j' q hjj hq
    simp only at hij hq
    have hj' : j' < st.out.length + 1 := by have := (List.getElem?_eq_some_iff.1 hq).1; simpa using this
    have hi : i < st.ins.length := by
      rcases Nat.lt_or_ge i st.ins.length with h | h
      · exact h
      · rw [List.getElem?_append_right h] at hij
        cases hv : x.div
        · rw [hv] at hij; simp at hij
        · rw [hv] at hij
          have hm := List.mem_of_getElem? hij
          simp at hm
          omega
    rw [List.getElem?_append_left hi] at hij
    by_cases hjl : j' < st.out.length
    · rw [List.getElem?_append_left hjl] at hq
      exact h.deep i j hij j' q hjj hq
    · have : j' = st.out.length := by omega
      subst this
      simp at hq
      rw [← hq]
      omega
  · intro j q hq ho
    simp only at hq
    by_cases hjl : j < st.out.length
    · rw [List.getElem?_append_left hjl] at hq
      exact List.mem_append_left _ (h.opn j q hq ho)
    · have hj' : j < st.out.length + 1 := by have := (List.getElem?_eq_some_iff.1 hq).1; simpa using this
      have : j = st.out.length := by omega
      subst this
      simp at hq
      rw [← hq, hxo] at ho
      simp [ho]
  · rw [hws]
    simp only
    have hz : ((wrFold st.out).inn.take st.ins.length ++ (if x.div = true then [x] else [])).length - (st.ins ++ (if x.div = true then [st.out.length] else [])).length = 0 := by
      rw [List.length_append, List.length_append, htl]
      cases x.div <;> simp
    rw [hz, List.replicate_zero, List.append_nil]
    exact h.back.snoc hw
  · intro hr'
    simp only at hr'
    rw [hr] at hr'
    have hv : x.div = false := by simpa using hr'
    exact ⟨st.out, x, rfl, hv, by simp [hv, hx], by simp [hv, hx]⟩
  · intro hr' q hq hqd
    simp only at hr' hq
    rw [hr] at hr'
    simp at hq hr'
    rw [← hq, hr'] at hqd
    cases hqd

theorem wr_most (l : List PartT) {r : RtS} (h : rtFold (some rtInit) l = some r) : ((wrFold l).inn.length : Int) = r.most := by
  have key : ∀ (k : Nat), k ≤ l.length → ∀ r, rtFold (some rtInit) (l.take k) = some r → ((wrFold (l.take k)).inn.length : Int) = r.most := by
    intro k
    induction k with
    | zero =>
      intro _ r hr
      have : rtInit = r := Option.some.inj hr
      subst this
      rfl
    | succ k ih =>
      intro hk r hr
      obtain ⟨x, hx⟩ : ∃ x, l[k]? = some x := ⟨_, List.getElem?_eq_getElem (by omega)⟩
      have hs : l.take (k + 1) = l.take k ++ [x] := by rw [List.take_add_one, hx]; rfl
      rw [hs, rtFold_snoc] at hr
      rcases h0 : rtFold (some rtInit) (l.take k) with _ | r0
      · rw [h0] at hr; cases hr
      · rw [h0] at hr
        have ih0 := ih (by omega) r0 h0
        obtain ⟨o1, _⟩ := rtOk_all h0
        obtain ⟨g1, g2, _, _, _, rfl⟩ := rtStep_some (show rtStep r0 x = some r from hr)
        rw [hs, wrFold_snoc]
        unfold wrStep
        simp only [List.length_append, List.length_take]
        cases x.div <;> simp <;> omega
  have := key l.length (Nat.le_refl _) r (by rw [List.take_length]; exact h)
  rwa [List.take_length] at this

theorem BInv.shutOne {st : FrS} {rs : RtS} {ls : List ByteArray} (h : BInv st rs ls) {s : ByteArray} {ins' : List Nat} {j : Nat} (he : st.ins = ins' ++ [j]) (hs : shutsT (L s) = true) :
    ∃ rs' : RtS, BInv ⟨shutAt st.out j, ins', false⟩ rs' (ls ++ [s]) := by
  have hlen' : st.ins.length = ins'.length + 1 := by rw [he]; simp
  obtain ⟨x, hxj, hwx, hxd, hxo, hxp⟩ := h.path ins'.length j (by rw [he]; simp)
  have hsa : shutAt st.out j = st.out.set j (shutP x) := by unfold shutAt; rw [hxj]; rfl
  obtain ⟨hjl, hxe⟩ := List.getElem?_eq_some_iff.1 hxj
  have hsplit : st.out = st.out.take j ++ (x :: st.out.drop (j + 1)) := by
    rw [← hxe, ← List.drop_eq_getElem_cons hjl, List.take_append_drop]
  have hset : st.out.set j (shutP x) = st.out.take j ++ (shutP x :: st.out.drop (j + 1)) := by
    rw [List.set_eq_take_append_cons_drop, if_pos hjl]
  have hlast : ∀ i j', st.ins[i]? = some j' → i ≤ ins'.length := fun i j' hij => by
    have := (List.getElem?_eq_some_iff.1 hij).1
    omega
  have hpost : ∀ y ∈ st.out.drop (j + 1), y.opn = false ∧ x.depth < y.depth := by
    intro y hy
    obtain ⟨k, hk⟩ := List.mem_iff_getElem?.1 hy
    rw [List.getElem?_drop] at hk
    have h1 := h.deep ins'.length j (by rw [he]; simp) (j + 1 + k) y (by omega) hk
    refine ⟨?_, by omega⟩
    cases hyo : y.opn
    · rfl
    · obtain ⟨i, hi⟩ := List.mem_iff_getElem?.1 (h.opn _ y hk hyo)
      have h2 := hlast i _ hi
      obtain ⟨q, hq, _, _, _, hqd⟩ := h.path i _ hi
      rw [hk] at hq
      rw [← Option.some.inj hq] at hqd
      omega
  have hne : ∀ i j', ins'[i]? = some j' → j' ≠ j := fun i j' hij e => by
    have hil : i < ins'.length := (List.getElem?_eq_some_iff.1 hij).1
    have h1 : st.ins[i]? = some j' := by rw [he, List.getElem?_append_left hil]; exact hij
    obtain ⟨q, hq, _, _, _, hqd⟩ := h.path i j' h1
    rw [e, hxj] at hq
    rw [← Option.some.inj hq] at hqd
    omega
  have hrt := h.rt
  rw [hsplit] at hrt
  obtain ⟨r0, hr0, hr1⟩ := rtFold_pre hrt
  obtain ⟨k1, k2, k3, _⟩ := rtOk_all hr0
  obtain ⟨rs', hr2, hrel, hle0⟩ := rt_shut (x := x) hxd k1 k3 hpost hr1
  have hxt : x.depth.toNat = ins'.length := by omega
  have hd0 : x.depth ≤ ((wrFold (st.out.take j)).inn.length : Int) := by
    rcases h1 : rtStep r0 x with _ | r1
    · have hr1' : rtFold (rtStep r0 x) (st.out.drop (j + 1)) = some rs := hr1
      rw [h1, rtFold_none] at hr1'; cases hr1'
    · obtain ⟨_, g2, _⟩ := rtStep_some h1
      have hwl := wr_most (st.out.take j) hr0
      omega
  have hw := wr_shut (s0 := wrFold (st.out.take j)) (x := x) (post := st.out.drop (j + 1)) hxd (by omega) hd0 (fun y hy => (hpost y hy).2)
  have hw1 : (x :: st.out.drop (j + 1)).foldl wrStep (wrFold (st.out.take j)) = wrFold st.out := by
    unfold wrFold
    rw [← List.foldl_append, ← hsplit]
  have hw2 : (shutP x :: st.out.drop (j + 1)).foldl wrStep (wrFold (st.out.take j)) = wrFold (st.out.set j (shutP x)) := by
    unfold wrFold
    rw [← List.foldl_append, ← hset]
  rw [hw1, hw2, hxt] at hw
  rw [hxt] at hrel
  obtain ⟨ro, rl, ri⟩ := hw
  have hsl : (wrFold (st.out.set j (shutP x))).inn.length = (wrFold st.out).inn.length := by rw [ri, List.length_set]
  rw [hsa]
  have hm := h.most
  have hlen := h.len
  refine ⟨rs', BInv.mk (by rw [hset, rtFold_app, hr0]; exact hr2) ?_ ?_ ?_ ?_ ?_ ?_ ?_ ?_ ?_ (fun hr => by cases hr) ?_⟩
  · rw [hrel.least]; show r0.least ≤ (ins'.length : Int); omega
  · rw [hrel.most]; show (ins'.length : Int) ≤ rs.most; omega
  · simp only
    rw [ri, hrel.inn, hrel.most, h.inn, List.take_set]
  · simp only
    rw [hsl, hrel.most]; exact hlen
  · intro i j' hij
    simp only at hij ⊢
    have hil : i < ins'.length := (List.getElem?_eq_some_iff.1 hij).1
    obtain ⟨q, hq, hwq, r⟩ := h.path i j' (by rw [he, List.getElem?_append_left hil]; exact hij)
    refine ⟨q, by rw [List.getElem?_set_ne (Ne.symm (hne i j' hij))]; exact hq, ?_, r⟩
    rw [ri, List.getElem?_set_ne (by omega)]
    exact hwq
  · intro i p hi hp
    simp only at hi hp
    rw [ri, List.getElem?_set] at hp
    split at hp
    · rw [← Option.some.inj hp]; rfl
    · exact h.shut i p (by omega) hp
  · intro i j' hij k q hjk hq
    simp only at hij hq
    have hil : i < ins'.length := (List.getElem?_eq_some_iff.1 hij).1
    have hij2 : st.ins[i]? = some j' := by rw [he, List.getElem?_append_left hil]; exact hij
    rw [List.getElem?_set] at hq
    split at hq
    · rename_i hjk2
      rw [← Option.some.inj hq]
      exact h.deep i j' hij2 j x (by omega) hxj
    · exact h.deep i j' hij2 k q hjk hq
  · intro k q hq ho
    simp only at hq ⊢
    rw [List.getElem?_set] at hq
    split at hq
    · rw [← Option.some.inj hq] at ho
      simp [shutP] at ho
    · rename_i hjk
      have := h.opn k q hq ho
      rw [he, List.mem_append, List.mem_singleton] at this
      rcases this with h1 | h1
      · exact h1
      · exact absurd h1.symm hjk
  · simp only
    rw [ro, hsl, show (wrFold st.out).inn.length - ins'.length = (wrFold st.out).inn.length - st.ins.length + 1 by omega, List.replicate_succ', ← List.append_assoc]
    refine h.back.snoc (.inr ?_)
    unfold shutsT at hs
    rw [of_decide_eq_true hs]
    rfl
  · intro _ q hq hqd
    simp only at hq ⊢
    rw [List.getLast?_eq_getElem?, List.length_set, List.getElem?_set] at hq
    split at hq
    · rw [← Option.some.inj hq] at hqd
      unfold shutP at hqd
      rw [hxd] at hqd; cases hqd
    · rw [← List.getLast?_eq_getElem?] at hq
      cases hrun : st.run
      · have := h.nrun hrun q hq hqd; omega
      · obtain ⟨ini, p, h1, h2, h3, _⟩ := h.run hrun
        rw [h1] at hq
        simp at hq
        rw [← hq, h3]; omega

theorem BInv.more {st : FrS} {rs : RtS} {ls : List ByteArray} (h : BInv st rs ls) {s : ByteArray} (hr : st.run = true) (ho : (opensT (L s)).2 = false) (hs : shutsT (L s) = true → st.ins.length = 0) (h10 : 10 ∉ L s) :
    ∃ rs' : RtS, BInv ⟨addLast st.out s, st.ins, true⟩ rs' (ls ++ [s]) := by
  obtain ⟨ini, p, h1, h2, h3, h4⟩ := h.run hr
  have ha : addLast st.out s = ini ++ [{ p with lines := p.lines ++ [s] }] := by unfold addLast; rw [h1]; simp
  have hrt := h.rt
  rw [h1, rtFold_snoc] at hrt
  rcases h0 : rtFold (some rtInit) ini with _ | r0
  · rw [h0] at hrt; cases hrt
  rw [h0] at hrt
  obtain ⟨k1, k2, k3, k4⟩ := rtOk_all h0
  obtain ⟨g1, g2, g3, g4, _, hrs⟩ := rtStep_some (show rtStep r0 p = some rs from hrt)
  obtain ⟨p1, p2, p3, p4⟩ := part_run g3 h2
  have hpt : partT { p with lines := p.lines ++ [s] } = true := by
    have hg := g3
    unfold partT at hg ⊢
    simp only [h2, Bool.false_eq_true, if_false, Bool.and_eq_true, Bool.not_eq_true'] at hg ⊢
    obtain ⟨⟨⟨q1, q2⟩, q3⟩, q4⟩ := hg
    refine ⟨⟨⟨by simp, q2⟩, q3⟩, ?_⟩
    rw [List.any_append, q4]
    simp only [List.any_cons, List.any_nil, Bool.or_false, Bool.false_or, ho]
    have hc : (L s).contains 10 = false := by
      cases hcc : (L s).contains 10
      · rfl
      · exact absurd (List.contains_iff_mem.1 hcc) h10
    rw [hc, Bool.or_false]
    cases hsh : shutsT (L s)
    · rfl
    · have := hs hsh
      rw [decide_eq_false (by omega)]; rfl
  have hstep : rtStep r0 { p with lines := p.lines ++ [s] } = some ⟨rs.most, rs.least, some { p with lines := p.lines ++ [s] }, r0.inn.take p.depth.toNat ++ [{ p with lines := p.lines ++ [s] }]⟩ := by
    unfold rtStep
    rw [if_neg (by rw [hpt]; rintro (h | h | h) <;> first | (simp only at h; omega) | cases h)]
    rw [if_neg (by rw [show clash r0.prev { p with lines := p.lines ++ [s] } = clash r0.prev p from rfl, g4]; decide)]
    rw [if_neg (by simp [p3])]
    rw [hrs]
    rfl
  have hwf : wrFold st.out = wrStep (wrFold ini) p := by rw [h1, wrFold_snoc]
  have hwf2 : wrFold (ini ++ [{ p with lines := p.lines ++ [s] }]) = ⟨(wrFold st.out).out ++ [s], (wrFold st.out).inn⟩ := by
    rw [wrFold_snoc, hwf]
    unfold wrStep
    simp only [h2, Bool.false_eq_true, if_false, List.append_nil, List.append_assoc]
  have hl : ∀ (j : Nat) q, st.out[j]? = some q → q.div = true → j < ini.length := by
    intro j q hq hqd
    rw [h1] at hq
    by_cases hj : j < ini.length
    · exact hj
    · have hj' : j < ini.length + 1 := by have := (List.getElem?_eq_some_iff.1 hq).1; simpa using this
      have : j = ini.length := by omega
      subst this
      simp at hq
      rw [← hq, h2] at hqd; cases hqd
  have hget : ∀ (j : Nat) q, (ini ++ [{ p with lines := p.lines ++ [s] }])[j]? = some q → ∃ q', st.out[j]? = some q' ∧ q'.depth = q.depth ∧ q'.opn = q.opn := by
    intro j q hq
    rw [h1]
    by_cases hj : j < ini.length
    · rw [List.getElem?_append_left hj] at hq ⊢
      exact ⟨q, hq, rfl, rfl⟩
    · have hj' : j < ini.length + 1 := by have := (List.getElem?_eq_some_iff.1 hq).1; simpa using this
      have : j = ini.length := by omega
      subst this
      simp at hq
      exact ⟨p, by simp, by rw [← hq], by rw [← hq]⟩
  have hm := h.most
  have hlen := h.len
  rw [ha]
  refine ⟨⟨rs.most, rs.least, some { p with lines := p.lines ++ [s] }, r0.inn.take p.depth.toNat ++ [{ p with lines := p.lines ++ [s] }]⟩, BInv.mk (by rw [rtFold_snoc, h0]; exact hstep) h.least h.most ?_ ?_ ?_ ?_ ?_ ?_ ?_ (fun _ => ⟨ini, _, rfl, h2, h3, h4⟩) (fun hf => by cases hf)⟩
  · rw [hwf2]
    simp only
    rw [h.inn, h4, hrs]
    unfold rtIn
    rw [h3, Int.toNat_natCast, List.take_left' (by rw [List.length_take]; omega), List.take_left' (by rw [List.length_take]; omega)]
  · rw [hwf2]; exact hlen
  · intro i j hij
    obtain ⟨q, hq, hw, hqd, r⟩ := h.path i j hij
    have hj := hl j q hq hqd
    refine ⟨q, ?_, by rw [hwf2]; exact hw, hqd, r⟩
    rw [h1, List.getElem?_append_left hj] at hq
    rw [List.getElem?_append_left hj]; exact hq
  · intro i q hi hq
    rw [hwf2] at hq
    exact h.shut i q hi hq
  · intro i j hij j' q hjj hq
    obtain ⟨q', hq', e1, _⟩ := hget j' q hq
    have := h.deep i j hij j' q' hjj hq'
    omega
  · intro j q hq hqo
    obtain ⟨q', hq', _, e2⟩ := hget j q hq
    exact h.opn j q' hq' (by rw [e2]; exact hqo)
  · rw [hwf2]
    simp only
    have hz : (wrFold st.out).inn.length - st.ins.length = 0 := by omega
    have hb := h.back
    rw [hz, List.replicate_zero, List.append_nil] at hb ⊢
    exact hb.snoc (.inl rfl)

theorem BInv.step {st : FrS} {rs : RtS} {ls : List ByteArray} (h : BInv st rs ls) {s : ByteArray} (h10 : 10 ∉ L s) : ∃ rs' : RtS, BInv (frStep st s) rs' (ls ++ [s]) := by
  unfold frStep
  split
  · rename_i hop
    obtain ⟨e1, e2⟩ := opens_inv (l := L s) (lbl := (opensT (L s)).1) (by rw [← hop])
    have := h.push (s := s) (x := ⟨(st.ins.length : Int), true, S (opensT (L s)).1, true, []⟩) (w := openB (S (opensT (L s)).1)) rfl
      (by unfold partT; simp only [if_true, List.isEmpty_nil, Bool.true_and, L_S]; exact e2)
      (by unfold clash; split <;> simp) (.inr (by rw [e1]; unfold openB; rw [L_append, L_append, L_S]; rfl)) rfl rfl false rfl
    simpa using this
  · rename_i hop
    have hop' : (opensT (L s)).2 = false := by simpa using hop
    split
    · rename_i hsh
      rw [Bool.and_eq_true, decide_eq_true_eq] at hsh
      obtain ⟨ins', j, he⟩ : ∃ a b, st.ins = a ++ [b] := ⟨st.ins.dropLast, st.ins.getLast (List.ne_nil_of_length_pos hsh.2), (List.dropLast_concat_getLast _).symm⟩
      rw [show st.ins.getLast?.getD 0 = j by rw [he]; simp, show st.ins.dropLast = ins' by rw [he]; simp]
      exact h.shutOne he hsh.1
    · rename_i hsh
      have hs : shutsT (L s) = true → st.ins.length = 0 := fun hs => by
        rw [hs, Bool.true_and, decide_eq_true_eq] at hsh; omega
      split
      · rename_i hr
        exact h.more hr hop' hs h10
      · rename_i hr
        have hr' : st.run = false := by simpa using hr
        have hc : (L s).contains 10 = false := by
          cases hcc : (L s).contains 10
          · rfl
          · exact absurd (List.contains_iff_mem.1 hcc) h10
        have hsd : (shutsT (L s) && decide ((0 : Int) < (st.ins.length : Int))) = false := by
          cases hss : shutsT (L s)
          · rfl
          · have := hs hss
            rw [decide_eq_false (by omega)]; rfl
        have := h.push (s := s) (x := ⟨(st.ins.length : Int), false, ⟨#[]⟩, false, [s]⟩) (w := s) rfl
          (by unfold partT; simp only [Bool.false_eq_true, if_false, List.any_cons, List.any_nil, hop', hsd, hc]; rfl)
          (by
            rw [(rtOk_all h.rt).2.2.2]
            rcases hq : st.out.getLast? with _ | q
            · rfl
            · unfold clash
              simp only
              cases hqd : q.div
              · have := h.nrun hr' q hq hqd
                rw [decide_eq_false (by omega)]; rfl
              · rfl) (.inl rfl) rfl rfl true rfl
        simpa using this

/-- the parts of lines may be, and are written as these lines -/
theorem back_law {ls : List ByteArray} (h : ∀ s ∈ ls, 10 ∉ L s) : right6 (frT ls).out = true ∧ BackAll ls (lines6 (frT ls).out) := by
  have key : ∀ (l : List ByteArray) (st : FrS) (rs : RtS) (pre : List ByteArray), BInv st rs pre → (∀ s ∈ l, 10 ∉ L s) → ∃ rs', BInv (l.foldl frStep st) rs' (pre ++ l) := by
    intro l
    induction l with
    | nil => intro st rs pre h _; exact ⟨rs, by rw [List.append_nil]; exact h⟩
    | cons x t ih =>
      intro st rs pre h hs
      obtain ⟨rs1, h1⟩ := h.step (s := x) (hs x (by simp))
      obtain ⟨rs2, h2⟩ := ih _ _ _ h1 (fun s hs' => hs s (by simp [hs']))
      exact ⟨rs2, by rw [List.append_assoc] at h2; exact h2⟩
  obtain ⟨rs, hB⟩ := key ls ⟨[], [], false⟩ rtInit [] ⟨rfl, Int.le_refl _, Int.le_refl _, rfl, rfl, by simp, by simp [wrFold, wrInit], by simp, by simp, trivial, by simp, by simp⟩ h
  have hB' : BInv (frT ls) rs ls := hB
  refine ⟨by unfold right6; rw [hB'.rt]; rfl, ?_⟩
  unfold lines6
  rw [hB'.pend0]
  exact hB'.back
end Go.Proofs.YtgdnphmannbpgaaGreatDoor
/-
  A document veiled twice is the document veiled by who sees what both see.
-/
namespace Go.Proofs.YtgdnphmannbpgaaGreatDoor
set_option linter.unusedVariables false

def veilG (v : List ByteArray → Bool) (u : List ByteArray) (p : PartT) : PartT := { p with lines := p.lines.map fun l => lineP v l u }
def stepG (v : List ByteArray → Bool) (st : VeS) (p : PartT) : VeS :=
  if skipT st p then st
  else ⟨st.out ++ [veilG v (openU st p) p], openU st p, if p.div && !v (openU st p) then p.depth else -1⟩
def foldG (v : List ByteArray → Bool) (ps : List PartT) : VeS := ps.foldl (stepG v) ⟨[], [], -1⟩
theorem veFold_eq (s : SeerT) (ps : List PartT) : veFold s ps = foldG (seesT s) ps := by
  have : veStep s = stepG (seesT s) := by
    funext st p
    unfold veStep stepG veilP veilG
    simp only [lineT_eq]
  unfold veFold foldG
  rw [this]
theorem foldG_snoc (v : List ByteArray → Bool) (ps : List PartT) (p : PartT) : foldG v (ps ++ [p]) = stepG v (foldG v ps) p := by
  unfold foldG; rw [List.foldl_append]; rfl
theorem foldG_congr {v w : List ByteArray → Bool} (h : ∀ x, v x = w x) (ps : List PartT) : foldG v ps = foldG w ps := by rw [show v = w from funext h]
theorem veilG_twice (v w : List ByteArray → Bool) (u : List ByteArray) (p : PartT) : veilG w u (veilG v u p) = veilG (fun x => v x && w x) u p := by
  unfold veilG
  simp only [List.map_map]
  congr 1
  refine List.map_congr_left fun l _ => ?_
  exact lineP_twice v w l u
/-- parts that lie as a frame's do -/
def Fit (ps : List PartT) : Prop := ∀ k p, ps[k]? = some p → 0 ≤ p.depth ∧ fitsT (prevOf ps k) p.depth
theorem fit_frT (ls : List ByteArray) : Fit (frT ls).out := fun k p hp => ⟨((depOk_frT ls).each p (List.mem_of_getElem? hp)).2.2, fits_at ls hp⟩
theorem Fit.pre {a : List PartT} {x : PartT} (h : Fit (a ++ [x])) : Fit a ∧ 0 ≤ x.depth ∧ fitsT a.getLast? x.depth := by
  refine ⟨fun k p hp => ?_, ?_, ?_⟩
  · have hk := (List.getElem?_eq_some_iff.1 hp).1
    obtain ⟨h1, h2⟩ := h k p (by rw [List.getElem?_append_left hk]; exact hp)
    refine ⟨h1, ?_⟩
    cases k with
    | zero => exact h2
    | succ k =>
      have : prevOf (a ++ [x]) (k + 1) = prevOf a (k + 1) := by
        show (a ++ [x])[k]? = a[k]?
        rw [List.getElem?_append_left (by omega)]
      rw [this] at h2; exact h2
  · exact (h a.length x (by simp)).1
  · have := (h a.length x (by simp)).2
    have e : prevOf (a ++ [x]) a.length = a.getLast? := by
      cases ha : a.length with
      | zero => rw [List.eq_nil_of_length_eq_zero ha]; rfl
      | succ k =>
        show (a ++ [x])[k]? = a.getLast?
        rw [List.getElem?_append_left (by omega), List.getLast?_eq_getElem?, ha]; rfl
    rw [e] at this; exact this
theorem depG_step (v : List ByteArray → Bool) {st : VeS} {last : Option PartT} (h : VeDep st last) {p : PartT} (h0 : 0 ≤ p.depth) (hn : fitsT last p.depth) : VeDep (stepG v st p) (some p) := by
  have hr := veDep_room h h0 hn
  unfold stepG
  cases hs : skipT st p
  · have hr := hr hs
    have hu : ((openU st p).length : Int) = p.depth + if p.div then 1 else 0 := by
      unfold openU
      rw [List.length_append, List.length_take, Nat.min_eq_left hr]
      cases p.div <;> simp <;> omega
    simp only [Bool.false_eq_true, if_false]
    cases hd : p.div && !v (openU st p)
    · simp only [Bool.false_eq_true, if_false]
      exact ⟨fun hc => by simp at hc, fun _ => hu⟩
    · simp only [if_true]
      have hdiv : p.div = true := by simp at hd; exact hd.1
      rw [hdiv] at hu
      exact ⟨fun _ => by simpa using hu, fun hc => by simp only at hc; omega⟩
  · simp only [if_true]
    have hh : 0 ≤ st.hid := by
      unfold skipT at hs
      simp at hs
      exact hs.1
    exact ⟨h.1, fun hc => by omega⟩
theorem snoc_ind {P : List PartT → Prop} (h0 : P []) (h1 : ∀ a x, P a → P (a ++ [x])) (l : List PartT) : P l := by
  have : ∀ r : List PartT, P r.reverse := by
    intro r
    induction r with
    | nil => exact h0
    | cons x r ih => rw [List.reverse_cons]; exact h1 _ x ih
  have := this l.reverse
  rwa [List.reverse_reverse] at this
theorem depG (v : List ByteArray → Bool) (ps : List PartT) (h : Fit ps) : VeDep (foldG v ps) ps.getLast? := by
  induction ps using snoc_ind with
  | h0 => exact ⟨fun h => by simp [foldG] at h, fun _ => rfl⟩
  | h1 a x ih =>
    obtain ⟨f1, f2, f3⟩ := h.pre
    rw [foldG_snoc]
    have := depG_step v (ih f1) f2 f3
    simpa using this
theorem roomG (v : List ByteArray → Bool) {a : List PartT} {x : PartT} (h : Fit (a ++ [x])) (hs : skipT (foldG v a) x = false) : x.depth.toNat ≤ (foldG v a).under.length := by
  obtain ⟨f1, f2, f3⟩ := h.pre
  exact veDep_room (depG v a f1) f2 f3 hs

structure TwiceInv (A B C : VeS) : Prop where
  out : B.out = C.out
  und : C.under = B.under
  cas : (B.hid = -1 ∧ A.under = B.under ∧ C.hid = A.hid) ∨ (∃ b : Nat, B.hid = b ∧ C.hid = b ∧ (A.hid = -1 ∨ (b : Int) ≤ A.hid) ∧ b + 1 ≤ A.under.length ∧ A.under.take (b + 1) = B.under.take (b + 1))
theorem skip_iff (st : VeS) (p : PartT) : skipT st p = true ↔ 0 ≤ st.hid ∧ st.hid < p.depth := by
  unfold skipT; simp
theorem skip_not (st : VeS) (p : PartT) : skipT st p = false ↔ ¬ (0 ≤ st.hid ∧ st.hid < p.depth) := by
  rw [← skip_iff]; simp
theorem openU_of {A B : VeS} {p q : PartT} (h1 : A.under.take p.depth.toNat = B.under.take p.depth.toNat) (h2 : q.depth = p.depth) (h3 : q.div = p.div) (h4 : q.label = p.label) : openU B q = openU A p := by
  unfold openU; rw [h2, h3, h4, h1]
theorem openU_len {A : VeS} {p : PartT} (h : p.depth.toNat ≤ A.under.length) : p.depth.toNat ≤ (openU A p).length ∧ (p.div = true → p.depth.toNat + 1 ≤ (openU A p).length) := by
  unfold openU
  rw [List.length_append, List.length_take, Nat.min_eq_left h]
  exact ⟨by omega, fun hd => by rw [hd]; simp⟩
/-- what is found behind a part that all three took -/
theorem TwiceInv.mk2 {v w : List ByteArray → Bool} {A B C : VeS} {p : PartT} (h : TwiceInv A B C) (h0 : 0 ≤ p.depth) (sA : skipT A p = false) (sB : skipT B p = false) (sC : skipT C p = false)
    (hU : A.under.take p.depth.toNat = B.under.take p.depth.toNat) (hr : p.depth.toNat ≤ A.under.length) :
    TwiceInv (stepG v A p) (stepG w B (veilG v (openU A p) p)) (stepG (fun x => v x && w x) C p) := by
  have sB' : skipT B (veilG v (openU A p) p) = false := sB
  obtain ⟨U, hUU⟩ : ∃ U, openU A p = U := ⟨_, rfl⟩
  have e1 : openU B (veilG v U p) = U := by rw [← hUU]; exact openU_of hU rfl rfl rfl
  have e2 : openU C p = U := by rw [← hUU]; exact openU_of (by rw [h.und]; exact hU) rfl rfl rfl
  have hl := (openU_len hr).2
  rw [hUU] at hl sB' ⊢
  unfold stepG
  rw [sA, sB', sC, e1, e2, hUU]
  simp only [Bool.false_eq_true, if_false]
  refine ⟨by rw [h.out, veilG_twice], rfl, ?_⟩
  have hdv : (veilG v U p).div = p.div := rfl
  have hdp : (veilG v U p).depth = p.depth := rfl
  rw [hdv, hdp]
  obtain ⟨d, hd⟩ := Int.eq_ofNat_of_zero_le h0
  by_cases hpd : p.div = true
  · have hl := hl hpd
    rw [hd, Int.toNat_natCast] at hl
    by_cases hv : v U = true <;> by_cases hw : w U = true
    · exact .inl ⟨by simp [hw], rfl, by simp [hv, hw]⟩
    · exact .inr ⟨d, by simp [hpd, hw, hd], by simp [hpd, hw, hd], .inl (by simp [hv]), hl, rfl⟩
    · exact .inl ⟨by simp [hw], rfl, by simp [hpd, hv, hw, hd]⟩
    · exact .inr ⟨d, by simp [hpd, hw, hd], by simp [hpd, hv, hw, hd], .inr (by simp [hpd, hv, hd]), hl, rfl⟩
  · exact .inl ⟨by simp [hpd], rfl, by simp [hpd]⟩
theorem TwiceInv.step {v w : List ByteArray → Bool} {A B C : VeS} {p : PartT} (h : TwiceInv A B C) (h0 : 0 ≤ p.depth) (hr : skipT A p = false → p.depth.toNat ≤ A.under.length) :
    TwiceInv (stepG v A p) (if skipT A p then B else stepG w B (veilG v (openU A p) p)) (stepG (fun x => v x && w x) C p) := by
  cases sA : skipT A p
  · have hr := hr sA
    simp only [Bool.false_eq_true, if_false]
    rcases h.cas with ⟨c1, c2, c3⟩ | ⟨b, c1, c2, c3, c4, c5⟩
    · refine h.mk2 h0 sA ?_ ?_ (by rw [c2]) hr
      · rw [skip_not, c1]; omega
      · rw [skip_not] at sA ⊢; rw [c3]; exact sA
    · by_cases hb : (b : Int) < p.depth
      · have sB : skipT B (veilG v (openU A p) p) = true := by rw [skip_iff, c1]; exact ⟨by omega, hb⟩
        have sC : skipT C p = true := by rw [skip_iff, c2]; exact ⟨by omega, hb⟩
        unfold stepG
        rw [sA, sB, sC]
        simp only [Bool.false_eq_true, if_false, if_true]
        refine ⟨h.out, h.und, .inr ⟨b, c1, c2, ?_, ?_, ?_⟩⟩
        · simp only
          split
          · right; omega
          · left; rfl
        · have := (openU_len hr).1
          simp only
          omega
        · simp only
          unfold openU
          rw [List.take_append_of_le_length (by rw [List.length_take]; omega), List.take_take, Nat.min_eq_left (by omega)]
          exact c5
      · refine h.mk2 h0 sA ?_ ?_ ?_ hr
        · rw [skip_not, c1]; omega
        · rw [skip_not, c2]; omega
        · have := congrArg (List.take p.depth.toNat) c5
          rw [List.take_take, List.take_take, Nat.min_eq_left (by omega)] at this
          exact this
  · rw [skip_iff] at sA
    have sA2 : skipT A p = true := (skip_iff A p).2 sA
    have sC : skipT C p = true := by
      rw [skip_iff]
      rcases h.cas with ⟨c1, c2, c3⟩ | ⟨b, c1, c2, c3, c4, c5⟩
      · rw [c3]; exact sA
      · rw [c2]; omega
    unfold stepG
    rw [sA2, sC]
    simp only [if_true]
    exact h
theorem foldG_inv (v w : List ByteArray → Bool) (ps : List PartT) (h : Fit ps) : TwiceInv (foldG v ps) (foldG w (foldG v ps).out) (foldG (fun x => v x && w x) ps) := by
  induction ps using snoc_ind with
  | h0 => exact ⟨rfl, rfl, .inl ⟨rfl, rfl, rfl⟩⟩
  | h1 a x ih =>
    obtain ⟨f1, f2, f3⟩ := h.pre
    have := (ih f1).step (v := v) (w := w) f2 (roomG v h)
    rw [foldG_snoc, foldG_snoc]
    have e : foldG w (stepG v (foldG v a) x).out = if skipT (foldG v a) x then foldG w (foldG v a).out else stepG w (foldG w (foldG v a).out) (veilG v (openU (foldG v a) x) x) := by
      cases hs : skipT (foldG v a) x
      · have : (stepG v (foldG v a) x).out = (foldG v a).out ++ [veilG v (openU (foldG v a) x) x] := by unfold stepG; rw [hs]; rfl
        rw [this, foldG_snoc]; rfl
      · have : (stepG v (foldG v a) x).out = (foldG v a).out := by unfold stepG; rw [hs]; rfl
        rw [this]; rfl
    rw [e]
    exact this
theorem foldG_twice (v w : List ByteArray → Bool) (ps : List PartT) (h : Fit ps) : (foldG w (foldG v ps).out).out = (foldG (fun x => v x && w x) ps).out := (foldG_inv v w ps h).out

/-! ## what is kept may be -/
theorem no124 (h : List UInt8 → Bool) (l : List UInt8) (hn : (124 : UInt8) ∉ rwL h l) : rwL h l = l := by
  induction l using line_ind with
  | h0 => rfl
  | h1 b r hs ih =>
    rw [rwL_none h hs] at hn ⊢
    simp only [List.mem_cons, not_or] at hn
    rw [ih hn.2]
  | h2 l a t z hs ih => exact absurd (by rw [rwL_some h hs]; simp) hn
theorem trimR_all {l m : List UInt8} (h : Lib.trimRightB l 32 = m) (c : UInt8) (hc : c ∉ m) (h32 : c ≠ 32) : c ∉ l := by
  obtain ⟨k, hk⟩ := trimR_split l
  rw [hk, h]
  simp only [List.mem_append, List.mem_replicate, not_or, not_and]
  exact ⟨hc, fun _ => h32⟩
theorem opens_true {l : List UInt8} (h : (opensT l).2 = true) : Lib.trimRightB l 32 = [58, 58, 58, 123] ++ (opensT l).1 ++ [125] ∧ labelT (opensT l).1 = true :=
  opens_inv (l := l) (lbl := (opensT l).1) (by rw [← h])
theorem opens_rw (h : List UInt8 → Bool) {l : List UInt8} (ho : (opensT (rwL h l)).2 = true) : rwL h l = l := by
  obtain ⟨e, hl⟩ := opens_true ho
  refine no124 h l (trimR_all e 124 ?_ (by decide))
  simp only [List.mem_append, List.mem_cons, List.not_mem_nil, or_false, not_or]
  exact ⟨⟨by decide, label_no hl 124 (by simp)⟩, by decide⟩
theorem shuts_rw (h : List UInt8 → Bool) {l : List UInt8} (ho : shutsT (rwL h l) = true) : rwL h l = l := by
  unfold shutsT at ho
  refine no124 h l (trimR_all (of_decide_eq_true ho) 124 (by decide) (by decide))
theorem head_58 {l m : List UInt8} (h : Lib.trimRightB l 32 = 58 :: m) : l.head? = some 58 := by
  obtain ⟨k, hk⟩ := trimR_split l
  rw [hk, h]; rfl
theorem headT_first {a lb : List UInt8} (ha : signsOk a = true) : (L (headT (S a) (S lb))).head? ≠ some 58 := by
  obtain ⟨i, j, y, e, hi, h1, h6⟩ := signs_shape ha
  subst e
  rw [headT_shape i j y lb h1, L_S]
  cases i with
  | zero =>
    obtain ⟨j, rfl⟩ : ∃ m, j = m + 1 := ⟨j - 1, by omega⟩
    simp [List.replicate_succ]
  | succ i => simp [List.replicate_succ]
theorem opens_lineP (v : List ByteArray → Bool) (l : ByteArray) (u : List ByteArray) (h : (opensT (L l)).2 = false) : (opensT (L (lineP v l u))).2 = false := by
  rw [← Bool.not_eq_true] at h ⊢
  intro ho
  unfold lineP at ho
  cases hh : headedT (L l) with
  | none =>
    rw [hh] at ho
    simp only [L_S] at ho
    rw [opens_rw _ ho] at ho
    exact h ho
  | some p =>
    obtain ⟨a, lb⟩ := p
    obtain ⟨k, e, hl, hs⟩ := headed_some hh
    rw [hh] at ho
    simp only at ho
    split at ho
    · rw [L_S] at ho
      rw [opens_rw _ ho] at ho
      exact h ho
    · exact headT_first hs (head_58 (opens_true ho).1)
theorem shuts_lineP (v : List ByteArray → Bool) (l : ByteArray) (u : List ByteArray) (h : shutsT (L l) = false) : shutsT (L (lineP v l u)) = false := by
  rw [← Bool.not_eq_true] at h ⊢
  intro ho
  unfold lineP at ho
  cases hh : headedT (L l) with
  | none =>
    rw [hh] at ho
    simp only [L_S] at ho
    rw [shuts_rw _ ho] at ho
    exact h ho
  | some p =>
    obtain ⟨a, lb⟩ := p
    obtain ⟨k, e, hl, hs⟩ := headed_some hh
    rw [hh] at ho
    simp only at ho
    split at ho
    · rw [L_S] at ho
      rw [shuts_rw _ ho] at ho
      exact h ho
    · unfold shutsT at ho
      exact headT_first hs (head_58 (of_decide_eq_true ho))
theorem partT_veil (v : List ByteArray → Bool) (u : List ByteArray) {p : PartT} (h : partT p = true) : partT (veilG v u p) = true := by
  have e : partT (veilG v u p) = if p.div then (p.lines.map fun l => lineP v l u).isEmpty && labelT (L p.label)
      else !(p.lines.map fun l => lineP v l u).isEmpty && decide (p.label.size = 0) && !p.opn && !((p.lines.map fun l => lineP v l u).any fun s => (opensT (L s)).2 || (shutsT (L s) && decide (0 < p.depth)) || (L s).contains 10) := rfl
  rw [e]
  clear e
  unfold partT at h
  by_cases hd : p.div = true
  case neg =>
    rw [if_neg hd] at h ⊢
    simp only [Bool.and_eq_true, Bool.not_eq_true', List.any_eq_false, Bool.or_eq_true, not_or] at h ⊢
    obtain ⟨⟨⟨h1, h2⟩, h3⟩, h4⟩ := h
    refine ⟨⟨⟨?_, h2⟩, h3⟩, fun x hx => ?_⟩
    · cases hp : p.lines with
      | nil => rw [hp] at h1; cases h1
      | cons => rfl
    · obtain ⟨l, hl, rfl⟩ := List.mem_map.1 hx
      obtain ⟨⟨q1, q2⟩, q3⟩ := h4 l hl
      refine ⟨⟨?_, ?_⟩, ?_⟩
      · rw [Bool.not_eq_true] at q1 ⊢
        exact opens_lineP v l u q1
      · intro hc
        cases hsl : shutsT (L l)
        · rw [shuts_lineP v l u hsl] at hc
          exact absurd hc.1 (by decide)
        · exact q2 ⟨hsl, hc.2⟩
      · intro hc
        rw [List.contains_iff_mem] at hc q3
        exact lf_lineP v u q3 hc
  case pos =>
    rw [if_pos hd] at h ⊢
    simp only [Bool.and_eq_true] at h ⊢
    refine ⟨?_, h.2⟩
    cases hp : p.lines with
    | nil => rfl
    | cons => rw [hp] at h; exact absurd h.1 (by simp)
def keyOf (p : Option PartT) : Option (Bool × Int) := p.map fun q => (q.div, q.depth)
structure RInv (st : VeS) (r r' : RtS) : Prop where
  least : r'.least ≤ r.least
  cas : (st.hid = -1 ∧ r'.most = r.most ∧ keyOf r'.prev = keyOf r.prev ∧ r'.inn.map (·.opn) = r.inn.map (·.opn)) ∨
    (∃ h : Nat, st.hid = h ∧ r'.most = h + 1 ∧ (∀ q, r'.prev = some q → q.div = true) ∧ h + 1 ≤ r.inn.length ∧ (r'.inn.map (·.opn)).take (h + 1) = (r.inn.map (·.opn)).take (h + 1))
theorem RInv.step (v : List ByteArray → Bool) {st : VeS} {r r' r1 : RtS} {x : PartT} (h : RInv st r r') (hx : rtStep r x = some r1) (h0 : 0 ≤ x.depth) (hm : r.most ≤ (r.inn.length : Int)) :
    (skipT st x = true → RInv (stepG v st x) r1 r') ∧ (skipT st x = false → ∃ r1', rtStep r' (veilG v (openU st x) x) = some r1' ∧ RInv (stepG v st x) r1 r1') := by
  obtain ⟨q1, q2, q3, q4, q5, q6⟩ := rtStep_some hx
  obtain ⟨d, hd⟩ := Int.eq_ofNat_of_zero_le h0
  rw [hd] at q1 q2 q5
  simp only [Int.toNat_natCast] at q5
  have hdl : d ≤ r.inn.length := by omega
  constructor
  · intro hs
    have hs2 := (skip_iff st x).1 hs
    unfold stepG
    rw [hs]
    simp only [if_true]
    subst q6
    refine ⟨?_, ?_⟩
    · simp only
      have := h.least
      split
      · rw [hd]; omega
      · exact this
    · rcases h.cas with ⟨c1, _⟩ | ⟨k, c1, c2, c3, c4, c5⟩
      · omega
      · refine .inr ⟨k, c1, c2, c3, ?_, ?_⟩
        · simp only [rtIn, List.length_append, List.length_take, List.length_singleton]
          rw [hd]; simp; omega
        · rw [c5]
          simp only [rtIn]
          rw [hd, Int.toNat_natCast, List.map_append, List.map_take, List.take_append_of_le_length (by rw [List.length_take, List.length_map]; omega), List.take_take, Nat.min_eq_left (by omega)]
  · intro hs
    have hs2 := (skip_not st x).1 hs
    -- the labels' openness above
    have hin : (r'.inn.take d).map (·.opn) = (r.inn.take d).map (·.opn) := by
      rw [List.map_take, List.map_take]
      rcases h.cas with ⟨_, _, _, c4⟩ | ⟨k, c1, c2, c3, c4, c5⟩
      · rw [c4]
      · have := congrArg (List.take d) c5
        rw [List.take_take, List.take_take, Nat.min_eq_left (by omega)] at this
        exact this
    have hmost : x.depth ≤ r'.most := by
      rcases h.cas with ⟨_, c2, _⟩ | ⟨k, c1, c2, _⟩
      · rw [c2, hd]; exact q2
      · rw [c2]; omega
    have hleast : r'.least ≤ x.depth := by have := h.least; rw [hd]; omega
    have hpt := partT_veil v (openU st x) q3
    have hcl : clash r'.prev (veilG v (openU st x) x) = false := by
      rcases h.cas with ⟨_, _, c3, _⟩ | ⟨k, _, _, c3, _⟩
      · have := clash_same (p := r.prev) (q := r'.prev) x c3
        rw [q4] at this
        exact this
      · unfold clash
        cases hp : r'.prev with
        | none => rfl
        | some q => simp only; rw [c3 q hp]; simp
    have hop : ((veilG v (openU st x) x).opn && (rtIn r' (veilG v (openU st x) x)).any (fun y => !y.opn)) = false := by
      cases hxo : x.opn
      · show (x.opn && _) = false
        rw [hxo]; rfl
      · have hall := q5 hxo
        show (x.opn && _) = false
        rw [hxo, Bool.true_and, List.any_eq_false]
        intro y hy
        have hyo : y.opn = true := by
          unfold rtIn at hy
          have hvd : (veilG v (openU st x) x).depth.toNat = d := by show x.depth.toNat = d; rw [hd]; rfl
          rw [hvd] at hy
          rcases List.mem_append.1 hy with hy | hy
          · have h1 : y.opn ∈ (r'.inn.take d).map (·.opn) := List.mem_map_of_mem hy
            rw [hin] at h1
            obtain ⟨z, hz, e⟩ := List.mem_map.1 h1
            rw [← e]; exact hall z hz
          · rw [List.mem_singleton.1 hy]; exact hxo
        simp [hyo]
    refine ⟨⟨if x.div then x.depth + 1 else x.depth, if x.opn then x.depth + 1 else r'.least, some (veilG v (openU st x) x), rtIn r' (veilG v (openU st x) x)⟩, ?_, ?_⟩
    · unfold rtStep
      have hvd : (veilG v (openU st x) x).depth = x.depth := rfl
      rw [if_neg (by rw [hvd, hpt]; simp; omega), hcl, hop]
      rfl
    · subst q6
      unfold stepG
      rw [hs]
      simp only [Bool.false_eq_true, if_false]
      have hvd : (veilG v (openU st x) x).depth = x.depth := rfl
      refine ⟨?_, ?_⟩
      · simp only
        have := h.least
        split <;> omega
      · have hin2 : (rtIn r' (veilG v (openU st x) x)).map (·.opn) = (rtIn r x).map (·.opn) := by
          simp only [rtIn, hvd]
          rw [hd, Int.toNat_natCast, List.map_append, List.map_append, hin]
          rfl
        by_cases hxd : (x.div && !v (openU st x)) = true
        case neg => exact .inl ⟨by simp only; rw [if_neg hxd], rfl, rfl, hin2⟩
        case pos =>
          have hdiv : x.div = true := by simp at hxd; exact hxd.1
          refine .inr ⟨d, by simp only; rw [if_pos hxd, hd], by simp [hdiv, hd], fun q hq => ?_, ?_, by rw [hin2]⟩
          · simp only [Option.some.injEq] at hq
            rw [← hq]; exact hdiv
          · simp only [rtIn, List.length_append, List.length_take, List.length_singleton]
            rw [hd]; simp; omega
theorem rt_veil (v : List ByteArray → Bool) (ps : List PartT) (hf : Fit ps) : ∀ r, rtFold (some rtInit) ps = some r → ∃ r', rtFold (some rtInit) (foldG v ps).out = some r' ∧ RInv (foldG v ps) r r' := by
  induction ps using snoc_ind with
  | h0 =>
    intro r hr
    simp only [rtFold, List.foldl_nil, Option.some.injEq] at hr
    subst hr
    exact ⟨rtInit, rfl, Int.le_refl _, .inl ⟨rfl, rfl, rfl, rfl⟩⟩
  | h1 a x ih =>
    intro r hr
    obtain ⟨f1, f2, f3⟩ := hf.pre
    rw [rtFold_snoc] at hr
    obtain ⟨r0, h0, h1⟩ := Option.bind_eq_some_iff.1 hr
    obtain ⟨r', g1, g2⟩ := ih f1 r0 h0
    obtain ⟨k1, k2⟩ := g2.step v h1 f2 (rtOk_all h0).2.2.1
    rw [foldG_snoc]
    cases hs : skipT (foldG v a) x
    · obtain ⟨r1', e1, e2⟩ := k2 hs
      refine ⟨r1', ?_, e2⟩
      have : (stepG v (foldG v a) x).out = (foldG v a).out ++ [veilG v (openU (foldG v a) x) x] := by unfold stepG; rw [hs]; rfl
      rw [this, rtFold_snoc, g1]
      exact e1
    · refine ⟨r', ?_, k1 hs⟩
      have : (stepG v (foldG v a) x).out = (foldG v a).out := by unfold stepG; rw [hs]; rfl
      rw [this]; exact g1
theorem right_veil (v : List ByteArray → Bool) {ps : List PartT} (hf : Fit ps) (h : right6 ps = true) : right6 (foldG v ps).out = true := by
  unfold right6 at h ⊢
  obtain ⟨r, hr⟩ := Option.isSome_iff_exists.1 h
  obtain ⟨r', h1, _⟩ := rt_veil v ps hf r hr
  rw [h1]; rfl

/-! ## what is written is read back -/
/-- lines and labels without faults -/
def LineOk (x : ByteArray) : Prop := Good (L x) ∧ (10 : UInt8) ∉ L x
def PartG (p : PartT) : Prop := LineOk p.label ∧ ∀ x ∈ p.lines, LineOk x
theorem opens_ok {s : ByteArray} (h : LineOk s) (ho : (opensT (L s)).2 = true) : LineOk (S (opensT (L s)).1) := by
  obtain ⟨e, hl⟩ := opens_true ho
  obtain ⟨k, hk⟩ := trimR_split (L s)
  rw [e] at hk
  obtain ⟨hg, h10⟩ := h
  rw [hk] at hg h10
  constructor
  · rw [L_S]
    rw [show [58, 58, 58, 123] ++ (opensT (L s)).1 ++ [125] ++ List.replicate k 32 = [58, 58, 58] ++ 123 :: ((opensT (L s)).1 ++ 125 :: List.replicate k 32) by simp] at hg
    exact ((hg.split (by decide)).2.1.split (by decide)).1
  · rw [L_S]
    intro hm
    exact h10 (by simp [hm])
theorem frStep_ok (st : FrS) (s : ByteArray) (h : ∀ p ∈ st.out, PartG p) (hs : LineOk s) : ∀ p ∈ (frStep st s).out, PartG p := by
  intro p hp
  unfold frStep at hp
  split at hp
  · rename_i ho
    rcases List.mem_append.1 hp with hp | hp
    · exact h p hp
    · rw [List.mem_singleton.1 hp]
      exact ⟨opens_ok hs ho, fun x hx => by cases hx⟩
  · split at hp
    · simp only at hp
      unfold shutAt at hp
      split at hp
      · rename_i q hq
        rcases List.mem_or_eq_of_mem_set hp with hp | rfl
        · exact h p hp
        · exact h q (List.mem_of_getElem? hq)
      · exact h p hp
    · split at hp
      · simp only at hp
        unfold addLast at hp
        split at hp
        · rename_i q hq
          rcases List.mem_append.1 hp with hp | hp
          · exact h p (List.dropLast_subset _ hp)
          · rw [List.mem_singleton.1 hp]
            have hq2 := h q (List.mem_of_getLast? hq)
            refine ⟨hq2.1, fun x hx => ?_⟩
            rcases List.mem_append.1 hx with hx | hx
            · exact hq2.2 x hx
            · rw [List.mem_singleton.1 hx]; exact hs
        · exact h p hp
      · rcases List.mem_append.1 hp with hp | hp
        · exact h p hp
        · rw [List.mem_singleton.1 hp]
          exact ⟨⟨.nil, by simp [L]⟩, fun x hx => by rw [List.mem_singleton.1 hx]; exact hs⟩
theorem frT_ok7 (ls : List ByteArray) (hs : ∀ x ∈ ls, LineOk x) : ∀ p ∈ (frT ls).out, PartG p := by
  have : ∀ (l : List ByteArray) (st : FrS), (∀ x ∈ l, LineOk x) → (∀ p ∈ st.out, PartG p) → ∀ p ∈ (l.foldl frStep st).out, PartG p := by
    intro l
    induction l with
    | nil => intro st _ h; exact h
    | cons x t ih => intro st hx h; exact ih _ (fun y hy => hx y (by simp [hy])) (frStep_ok st x h (hx x (by simp)))
  exact this ls _ hs (fun p hp => by cases hp)
theorem foldG_ok (v : List ByteArray → Bool) (ps : List PartT) (h : ∀ p ∈ ps, PartG p) : ∀ p ∈ (foldG v ps).out, PartG p := by
  induction ps using snoc_ind with
  | h0 => intro p hp; cases hp
  | h1 a x ih =>
    have ih := ih (fun p hp => h p (by simp [hp]))
    rw [foldG_snoc]
    intro p hp
    unfold stepG at hp
    split at hp
    · exact ih p hp
    · rcases List.mem_append.1 hp with hp | hp
      · exact ih p hp
      · rw [List.mem_singleton.1 hp]
        obtain ⟨g1, g2⟩ := h x (by simp)
        refine ⟨g1, fun y hy => ?_⟩
        obtain ⟨l, hl, rfl⟩ := List.mem_map.1 hy
        obtain ⟨k1, k2⟩ := g2 l hl
        exact ⟨good_lineP v _ k1, lf_lineP v _ k2⟩
theorem shutB_ok : LineOk shutB := ⟨.cons c58 (.cons c58 (.cons c58 .nil)), by decide⟩
theorem openB_ok {lb : ByteArray} (h : LineOk lb) : LineOk (openB lb) := by
  have e : L (openB lb) = [58, 58, 58, 123] ++ (L lb ++ [125]) := by
    unfold openB; simp [L_append, L_lit]
  obtain ⟨h1, h2⟩ := h
  constructor
  · rw [e]
    exact .cons c58 (.cons c58 (.cons c58 (.cons c123 (h1.app (.chunk c125)))))
  · rw [e]
    simp only [List.mem_append, List.mem_cons, List.not_mem_nil, or_false, not_or]
    exact ⟨by decide, h2, by decide⟩
theorem lines6_ok {l : List PartT} (h : ∀ p ∈ l, PartG p) : ∀ x ∈ lines6 l, LineOk x := by
  have key : ∀ x ∈ (wrFold l).out, LineOk x := by
    induction l using snoc_ind with
    | h0 => intro x hx; cases hx
    | h1 a y ih =>
      have ih := ih (fun p hp => h p (by simp [hp]))
      obtain ⟨g1, g2⟩ := h y (by simp)
      rw [wrFold_snoc]
      intro x hx
      unfold wrStep at hx
      simp only [List.mem_append] at hx
      rcases hx with ((hx | hx) | hx) | hx
      · exact ih x hx
      · rw [(List.mem_replicate.1 hx).2]; exact shutB_ok
      · split at hx
        · rw [List.mem_singleton.1 hx]; exact openB_ok g1
        · cases hx
      · exact g2 x hx
  intro x hx
  unfold lines6 at hx
  rcases List.mem_append.1 hx with hx | hx
  · exact key x hx
  · rw [(List.mem_replicate.1 hx).2]; exact shutB_ok
theorem good_joinT : ∀ l : List ByteArray, (∀ x ∈ l, LineOk x) → Good (joinT (l.map L))
  | [], _ => .nil
  | x :: t, h => by
    have : joinT ((x :: t).map L) = L x ++ 10 :: joinT (t.map L) := by simp [joinT]
    rw [this]
    exact (h x (by simp)).1.join (good_joinT t fun y hy => h y (by simp [hy])) lf_chunk
theorem lines_ok (t : List UInt8) (hg : Good t) : ∀ x ∈ linesB (S t), LineOk x := by
  have h2 : ∀ n (l : List UInt8), l.length ≤ n → Good l → ∀ x ∈ split10 l, Good x := by
    intro n
    induction n with
    | zero =>
      intro l hl _ x hx
      have : l = [] := List.eq_nil_of_length_eq_zero (by omega)
      subst this
      rw [split10_none (by simp)] at hx
      rw [List.mem_singleton.1 hx]; exact .nil
    | succ n ih =>
      intro l hl hg x hx
      rcases find10 l with h | ⟨a, r, e, h⟩
      · rw [split10_none h] at hx
        rw [List.mem_singleton.1 hx]; exact hg
      · rw [e, split10_app r h] at hx
        rw [e] at hg
        obtain ⟨s1, s2, _⟩ := hg.split (by decide)
        rcases List.mem_cons.1 hx with h | h
        · rw [h]; exact s1
        · have hl2 := congrArg List.length e
          simp at hl2
          exact ih r (by omega) s2 x h
  intro x hx
  unfold linesB at hx
  obtain ⟨y, hy, rfl⟩ := List.mem_map.1 hx
  have h10 := linesT_no _ y hy
  refine ⟨?_, h10⟩
  unfold linesT at hy
  rw [L_S] at hy ⊢
  refine h2 _ t (Nat.le_refl _) hg y ?_
  split at hy
  · exact List.dropLast_subset _ hy
  · exact hy
theorem parts_ok (text : ByteArray) : ∀ p ∈ partsOf text, PartG p := frT_ok7 _ (lines_ok _ (good_repT text))
theorem parts_fit (text : ByteArray) : Fit (partsOf text) := fit_frT _
theorem parts_right (text : ByteArray) : right6 (partsOf text) = true := (back_law (fun s hs => (lines_ok _ (good_repT text) s hs).2)).1
theorem linesB_join7 {l : List ByteArray} (h : ∀ x ∈ l, 10 ∉ L x) : linesB (S (joinT (l.map L))) = l := by
  unfold linesB
  rw [L_S, lines_join (fun x hx => by obtain ⟨y, hy, rfl⟩ := List.mem_map.1 hx; exact h y hy), map_S_L]
/-- a document, veiled by who sees what v tells -/
def docP (v : List ByteArray → Bool) (text : ByteArray) : ByteArray := S (joinT ((write6 (foldG v (partsOf text)).out).map L))
theorem veilT_eq (s : SeerT) (text : ByteArray) : veilT s text = docP (seesT s) text := by unfold veilT docP; rw [veFold_eq]
theorem docP_congr {v w : List ByteArray → Bool} (h : ∀ x, v x = w x) (text : ByteArray) : docP v text = docP w text := by rw [show v = w from funext h]
theorem docP_write (v : List ByteArray → Bool) (text : ByteArray) : write6 (foldG v (partsOf text)).out = lines6 (foldG v (partsOf text)).out := by
  unfold write6; rw [right_veil v (parts_fit text) (parts_right text)]; rfl
theorem repT_doc (v : List ByteArray → Bool) (text : ByteArray) : S (repT (docP v text)) = docP v text := by
  unfold docP
  rw [docP_write, repT_good (good_joinT _ (lines6_ok (foldG_ok v _ (parts_ok text))))]
theorem parts_again (v : List ByteArray → Bool) (text : ByteArray) : partsOf (docP v text) = (foldG v (partsOf text)).out := by
  have h1 := lines6_ok (foldG_ok v _ (parts_ok text))
  unfold partsOf
  rw [repT_doc]
  unfold docP
  rw [docP_write, linesB_join7 (fun x hx => (h1 x hx).2)]
  exact turns_law (right_veil v (parts_fit text) (parts_right text))
theorem docP_twice (v w : List ByteArray → Bool) (text : ByteArray) : docP w (docP v text) = docP (fun x => v x && w x) text := by
  unfold docP
  rw [show (S (joinT ((write6 (foldG v (partsOf text)).out).map L))) = docP v text from rfl, parts_again, foldG_twice v w _ (parts_fit text)]
end Go.Proofs.YtgdnphmannbpgaaGreatDoor
/-
  Parts that may be: each of those that are open lies as deep as it stands; what the document's PartsWrite does with them.
-/
namespace Go.Proofs.YtgdnphmannbpgaaGreatDoor
set_option linter.unusedVariables false

theorem wr_room {l : List PartT} {r : RtS} (h : rtFold (some rtInit) l = some r) {k : Nat} {x : PartT} (hx : l[k]? = some x) : 0 ≤ x.depth ∧ x.depth.toNat ≤ (wrFold (l.take k)).inn.length ∧ partT x = true := by
  have hk : k < l.length := (List.getElem?_eq_some_iff.1 hx).1
  have hs : l = (l.take k ++ [x]) ++ l.drop (k + 1) := by
    conv => lhs; rw [← List.take_append_drop (k + 1) l, List.take_add_one, hx]
    rfl
  rw [hs] at h
  obtain ⟨r1, h1, _⟩ := rtFold_pre h
  obtain ⟨r0, h0, h2⟩ := rtFold_pre h1
  have hm := wr_most _ h0
  obtain ⟨o1, _⟩ := rtOk_all h0
  have h3 : rtStep r0 x = some r1 := by
    have := rtFold_snoc (some r0) [] x
    rw [List.nil_append] at this
    rw [this] at h2
    exact h2
  obtain ⟨g1, g2, g3, _⟩ := rtStep_some h3
  exact ⟨by omega, by omega, g3⟩
theorem wr_depths {l : List PartT} {r : RtS} (h : rtFold (some rtInit) l = some r) : ∀ k, k ≤ l.length → ∀ (j : Nat) y, (wrFold (l.take k)).inn[j]? = some y → y.depth = (j : Int) := by
  intro k
  induction k with
  | zero => intro _ j y hy; simp [wrFold, wrInit] at hy
  | succ k ih =>
    intro hk j y hy
    obtain ⟨x, hx⟩ : ∃ x, l[k]? = some x := ⟨_, List.getElem?_eq_getElem (by omega)⟩
    have hs : l.take (k + 1) = l.take k ++ [x] := by rw [List.take_add_one, hx]; rfl
    obtain ⟨g1, g2, _⟩ := wr_room h hx
    rw [hs, wrFold_snoc] at hy
    unfold wrStep at hy
    simp only at hy
    have hl : ((wrFold (l.take k)).inn.take x.depth.toNat).length = x.depth.toNat := by rw [List.length_take]; omega
    rcases Nat.lt_or_ge j x.depth.toNat with hj | hj
    · rw [List.getElem?_append_left (by omega), List.getElem?_take, if_pos hj] at hy
      exact ih (by omega) j y hy
    · rw [List.getElem?_append_right (by omega), hl] at hy
      cases hd : x.div
      · rw [hd] at hy; simp at hy
      · rw [hd] at hy
        simp only [if_true] at hy
        have hj0 : j - x.depth.toNat = 0 := by
          have := (List.getElem?_eq_some_iff.1 hy).1
          simp at this; omega
        rw [hj0] at hy
        have : x = y := by simpa using hy
        subst this
        omega
/-- the open ones, the last one taken away -/
theorem notOpn_last {a : List PartT} {y : PartT} {d : Nat} (hd : d ≤ a.length) : notOpn ((a ++ [y]).drop d) = notOpn (a.drop d) + (if y.opn then 0 else 1) := by
  unfold notOpn
  rw [List.drop_append_of_le_length hd, List.countP_append]
  cases h : y.opn <;> simp [h]
theorem lines6_take (ps : List PartT) {k : Nat} {x : PartT} (hx : ps[k]? = some x) : wrFold (ps.take (k + 1)) = wrStep (wrFold (ps.take k)) x := by
  rw [List.take_add_one, hx, Option.toList_some, wrFold_snoc]
end Go.Proofs.YtgdnphmannbpgaaGreatDoor
