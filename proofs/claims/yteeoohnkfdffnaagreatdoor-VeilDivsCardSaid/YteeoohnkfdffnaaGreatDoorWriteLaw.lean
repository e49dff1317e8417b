/-
  Whether parts may be, and the lines of them: what frame.Right and frame.Write answer, as folds.
-/
import Derived.Test.YteeoohnkfdffnaaGreatDoorDepthsLaw
import Derived.Test.YteeoohnkfdffnaaGreatDoorHeadLaw
namespace Go.Proofs.YteeoohnkfdffnaaGreatDoor

/-- a part by itself -/
def partT (p : PartT) : Bool :=
  if p.div then p.lines.isEmpty && labelT (L p.label)
  else !p.lines.isEmpty && decide (p.label.size = 0) && !p.opn && !(p.lines.any fun s => (opensT (L s)).2 || (shutsT (L s) && decide (0 < p.depth)) || (L s).contains 10)
/-- how far it is seen whether parts may be -/
structure RtS where
  most : Int
  least : Int
  prev : Option PartT
  inn : List PartT
def clash (prev : Option PartT) (x : PartT) : Bool := match prev with
  | some q => !x.div && !q.div && decide (q.depth = x.depth)
  | none => false
def rtIn (st : RtS) (x : PartT) : List PartT := st.inn.take x.depth.toNat ++ [x]
def rtStep (st : RtS) (x : PartT) : Option RtS :=
  if x.depth < st.least ∨ st.most < x.depth ∨ partT x = false then none
  else if clash st.prev x then none
  else if x.opn && (rtIn st x).any (fun y => !y.opn) then none
  else some ⟨if x.div then x.depth + 1 else x.depth, if x.opn then x.depth + 1 else st.least, some x, rtIn st x⟩
def rtFold : Option RtS → List PartT → Option RtS := List.foldl fun s x => s.bind fun s => rtStep s x
def rtInit : RtS := ⟨0, 0, none, []⟩
def right6 (ps : List PartT) : Bool := (rtFold (some rtInit) ps).isSome

def shutB : ByteArray := ⟨#[58, 58, 58]⟩
def openB (label : ByteArray) : ByteArray := (⟨#[58, 58, 58, 123]⟩ : ByteArray) ++ label ++ (⟨#[125]⟩ : ByteArray)
def notOpn (l : List PartT) : Nat := l.countP fun y => !y.opn
/-- how far parts are written -/
structure WrS where
  out : List ByteArray
  inn : List PartT
def wrStep (st : WrS) (x : PartT) : WrS :=
  ⟨st.out ++ List.replicate (notOpn (st.inn.drop x.depth.toNat)) shutB ++ (if x.div then [openB x.label] else []) ++ x.lines, st.inn.take x.depth.toNat ++ (if x.div then [x] else [])⟩
def wrInit : WrS := ⟨[], []⟩
def wrFold (ps : List PartT) : WrS := ps.foldl wrStep wrInit
def lines6 (ps : List PartT) : List ByteArray := (wrFold ps).out ++ List.replicate (notOpn (wrFold ps).inn) shutB
def write6 (ps : List PartT) : List ByteArray := if right6 ps then lines6 ps else []

theorem rtFold_none (ps : List PartT) : rtFold none ps = none := by
  induction ps with
  | nil => rfl
  | cons x t ih => exact ih
theorem rtFold_snoc (s : Option RtS) (ps : List PartT) (x : PartT) : rtFold s (ps ++ [x]) = (rtFold s ps).bind fun s => rtStep s x := by
  unfold rtFold; rw [List.foldl_append]; rfl
theorem wrFold_snoc (ps : List PartT) (x : PartT) : wrFold (ps ++ [x]) = wrStep (wrFold ps) x := by
  unfold wrFold; rw [List.foldl_append]; rfl
theorem frT_app (a b : List ByteArray) : frT (a ++ b) = b.foldl frStep (frT a) := by unfold frT; rw [List.foldl_append]

theorem rtStep_some {st st' : RtS} {x : PartT} (h : rtStep st x = some st') :
    st.least ≤ x.depth ∧ x.depth ≤ st.most ∧ partT x = true ∧ clash st.prev x = false ∧ (x.opn = true → ∀ y ∈ st.inn.take x.depth.toNat, y.opn = true) ∧
    st' = ⟨if x.div then x.depth + 1 else x.depth, if x.opn then x.depth + 1 else st.least, some x, rtIn st x⟩ := by
  unfold rtStep at h
  split at h
  · cases h
  rename_i h1
  split at h
  · cases h
  rename_i h2
  split at h
  · cases h
  rename_i h3
  refine ⟨by omega, by omega, ?_, by simpa using h2, fun hx y hy => ?_, (Option.some.inj h).symm⟩
  · cases hp : partT x
    · exact absurd (.inr (.inr hp)) h1
    · rfl
  · rw [hx, Bool.true_and] at h3
    cases hyo : y.opn
    · exact absurd (List.any_eq_true.2 ⟨y, by unfold rtIn; simp [hy], by rw [hyo]; rfl⟩) h3
    · rfl
theorem part_div {x : PartT} (h : partT x = true) (hd : x.div = true) : x.lines = [] ∧ labelT (L x.label) = true := by
  unfold partT at h
  rw [hd, if_pos rfl, Bool.and_eq_true] at h
  exact ⟨List.isEmpty_iff.1 h.1, h.2⟩
theorem part_run {x : PartT} (h : partT x = true) (hd : x.div = false) :
    x.lines ≠ [] ∧ x.label = ⟨#[]⟩ ∧ x.opn = false ∧ ∀ s ∈ x.lines, (opensT (L s)).2 = false ∧ (shutsT (L s) = true → ¬ 0 < x.depth) ∧ 10 ∉ L s := by
  unfold partT at h
  rw [hd] at h
  simp only [Bool.false_eq_true, if_false, Bool.and_eq_true, Bool.not_eq_true', decide_eq_true_eq, List.any_eq_false] at h
  obtain ⟨⟨⟨h1, h2⟩, h3⟩, h4⟩ := h
  refine ⟨fun e => by rw [e] at h1; simp at h1, bytes_none h2, h3, fun s hs => ?_⟩
  have := h4 s hs
  simp only [Bool.or_eq_true, Bool.and_eq_true, decide_eq_true_eq, not_or, not_and, Bool.not_eq_true, List.contains_iff_mem] at this
  exact ⟨this.1.1, this.1.2, by simpa using this.2⟩

theorem opens_openB {lb : ByteArray} (h : labelT (L lb) = true) : opensT (L (openB lb)) = (L lb, true) := by
  have e : L (openB lb) = [58, 58, 58, 123] ++ L lb ++ [125] := by unfold openB; rw [L_append, L_append]; rfl
  have ht : Lib.trimRightB (L (openB lb)) 32 = [58, 58, 58, 123] ++ L lb ++ [125] := by
    have := trimR_snoc ([58, 58, 58, 123] ++ L lb) 125 (by decide) 0
    rw [List.replicate_zero, List.append_nil] at this
    rw [e, this]
  have hp : Lib.hasPrefix ([58, 58, 58, 123] ++ L lb ++ [125]) openL = true := by
    unfold Lib.hasPrefix openL
    exact List.isPrefixOf_iff_prefix.2 ⟨L lb ++ [125], by simp⟩
  unfold opensT
  rw [ht, hp, if_pos rfl]
  have hd : ([58, 58, 58, 123] ++ L lb ++ [125]).drop 4 = L lb ++ [125] := rfl
  rw [hd, (suffix_yes _ _).1, (suffix_yes _ _).2, h]
  rfl
theorem shutB_fold : (opensT (L shutB)).2 = false ∧ shutsT (L shutB) = true := by decide +kernel
end Go.Proofs.YteeoohnkfdffnaaGreatDoor
