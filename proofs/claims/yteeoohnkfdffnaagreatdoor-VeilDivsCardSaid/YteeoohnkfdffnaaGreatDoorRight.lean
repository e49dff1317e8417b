/-
  frame.Right, with what it hands to slices.ContainsFunc: contracts.
-/
import Derived.Test.YteeoohnkfdffnaaGreatDoorPart
import Derived.Test.YteeoohnkfdffnaaGreatDoorStepApp
import Derived.Deep.DeepCutAuto
namespace Go.Proofs.YteeoohnkfdffnaaGreatDoor
open Go.RowKit

/-- parts that can be read, with their lines -/
def PartsIn (w : World) (K : Nat) (A : Option Addr) (n : Nat) (ps : List PartR) : Prop :=
  Reads w K 5 A n (partCells ps) ∧ ∀ p ∈ ps, Reads w K 1 p.la p.t.lines.length (txCells p.t.lines)
theorem PartsIn.below {w w' : World} {K n : Nat} {A : Option Addr} {ps : List PartR} (h : PartsIn w K A n ps) (hb : Below K w w') : PartsIn w' K A n ps := ⟨h.1.below hb, fun p hp => (h.2 p hp).below hb⟩
theorem Parts.reads {w : World} {base n c : Nat} {A : Option Addr} {ps : List PartR} (h : Parts w base A n c ps) : PartsIn w w.heap.size A n ps := ⟨h.1.reads, fun p hp => (h.2.1 p hp).reads⟩
theorem PartsIn.len {w : World} {K n : Nat} {A : Option Addr} {ps : List PartR} (h : PartsIn w K A n ps) : ps.length = n := by have := h.1.1; rw [parts_length] at this; omega
theorem Reads.part {w : World} {B n : Nat} {A : Option Addr} {ps : List PartR} (h : Reads w B 5 A n (partCells ps)) {k : Nat} {p : PartR} (hp : ps[k]? = some p) (hk : k < n) :
    ∃ ad, A = some ad ∧ ad.block < B ∧ w.cell? (ad.add (k * 5)) = some (.int .i64 p.t.depth) ∧ w.cell? ⟨(ad.add (k * 5)).block, (ad.add (k * 5)).off + 1, none⟩ = some (.bool p.t.div) ∧ w.cell? ⟨(ad.add (k * 5)).block, (ad.add (k * 5)).off + 2, none⟩ = some (.string p.t.label) ∧
      w.cell? ⟨(ad.add (k * 5)).block, (ad.add (k * 5)).off + 3, none⟩ = some (.bool p.t.opn) ∧ w.cell? ⟨(ad.add (k * 5)).block, (ad.add (k * 5)).off + 4, none⟩ = some (.slice p.la p.t.lines.length p.lc) := by
  obtain ⟨ad, e, hb, h0, hj⟩ := h.elem hk
  have g := fun j (hj : j < 5) => flat_get PartR.cells 5 part_len ps k j hj hp
  exact ⟨ad, e, hb, h0 _ ((g 0 (by omega)).trans rfl), hj 1 _ (by omega) ((g 1 (by omega)).trans rfl), hj 2 _ (by omega) ((g 2 (by omega)).trans rfl), hj 3 _ (by omega) ((g 3 (by omega)).trans rfl), hj 4 _ (by omega) ((g 4 (by omega)).trans rfl)⟩

set_option maxHeartbeats 1000000 in
set_option maxRecDepth 100000 in
theorem notOpen_any (p : PartR) (w : World) :
    Calls Tryz.prog 93 #[.agg #[.int .i64 p.t.depth, .bool p.t.div, .string p.t.label, .bool p.t.opn, .slice p.la p.t.lines.length p.lc]] w fun e w' => e = .returned (.bool (!p.t.opn)) ∧ Below w.heap.size w w' := by
  obtain ⟨⟨d, v, lb, o, ls⟩, la, lc⟩ := p
  simp only
  generalize ls.length = n
  have bA : Below w.heap.size w (w.alloc (.cells #[.int .i64 d, .bool v, .string lb, .bool o, .slice la n lc] 73)) := (Below.refl _ _).alloc (Nat.le_refl _) _
  cases o
  all_goals
    go_enter Tryz.func93, Tryz.ntmps93
    go_wp2_with fail
    go_ret
    exact ⟨rfl, bA⟩

set_option maxHeartbeats 2000000 in
set_option maxRecDepth 100000 in
theorem notOpenIndex_any (A : Option Addr) (n c K : Nat) (ps : List PartR) (w : World) (hr : Reads w K 5 A n (partCells ps)) (hn : n ≤ 9223372036854775807) (hK : K ≤ w.heap.size) :
    Calls Tryz.prog 118 #[.slice A n c, .func (.func 93) #[] #[]] w fun e w' => e = .returned (.int .i64 (firstT (fun p : PartR => !p.t.opn) 0 ps)) ∧ Below w.heap.size w w' := by
  have hlen : ps.length = n := by have := hr.1; rw [parts_length] at this; omega
  have HL := Lib.hid hlen
  clear hlen
  go_enter Tryz.func118, Tryz.ntmps118
  go_wp2_with fail
  go_loopw [8] (fun s8 wr => ∃ k : Nat, k ≤ n ∧ s8 = .int .i64 k ∧ firstT (fun p : PartR => !p.t.opn) 0 ps = firstT (fun p : PartR => !p.t.opn) k (ps.drop k) ∧ Below w.heap.size w wr) (fun s8 _ => n - (intOf s8).toNat)
  case atStart => exact ⟨0, Nat.zero_le _, rfl, rfl, Below.refl _ _⟩
  case round =>
    obtain ⟨k, hk, rfl, hix, hbw⟩ := hrel
    by_cases hlt : k < n
    · have hlt2 : k < ps.length := by rw [HL.out]; exact hlt
      have hd : ps.drop k = ps[k] :: ps.drop (k + 1) := List.drop_eq_getElem_cons hlt2
      rw [hd, firstT] at hix
      obtain ⟨ad, rfl, _, c0, c1, c2, c3, c4⟩ := (hr.below (hbw.mono hK)).part (List.getElem?_eq_getElem hlt2) hlt
      generalize ps[k] = p at *
      have HIX := Lib.hid hix
      clear hix hd
      have HN := Lib.hid (fun w => notOpen_any p w)
      obtain ⟨⟨d, v, lb, o, ls⟩, la, lc⟩ := p
      simp only at HN HIX c0 c1 c2 c3 c4
      generalize ls.length = m at *
      cases o
      · have HR : Hid (firstT (fun p : PartR => !p.t.opn) 0 ps = (k : Int)) := Lib.hid (by have := HIX.out; simpa using this)
        clear HIX
        go_wp2_with (go_at_call 93; refine (HN.out _).mono ?_; rintro e w1 ⟨rfl, hb1⟩)
        go_ret
        rw [HR.out]
        exact ⟨rfl, hbw.trans (hb1.mono (by have := hbw.size; omega))⟩
      · have HR : Hid (firstT (fun p : PartR => !p.t.opn) 0 ps = firstT (fun p : PartR => !p.t.opn) (k + 1) (ps.drop (k + 1))) := Lib.hid (by have := HIX.out; simpa using this)
        clear HIX
        go_wp2_with (go_at_call 93; refine (HN.out _).mono ?_; rintro e w1 ⟨rfl, hb1⟩)
        go_roundw
        case rel => exact ⟨k + 1, by omega, by go_num, HR.out, hbw.trans (hb1.mono (by have := hbw.size; omega))⟩
        case measure => simp [intOf]; omega
    · have HR : Hid (firstT (fun p : PartR => !p.t.opn) 0 ps = -1) := Lib.hid (by
        rw [hix, List.drop_eq_nil_of_le (by rw [HL.out]; omega)]; rfl)
      clear hix
      go_wp2_with fail
      go_ret
      rw [HR.out]
      exact ⟨rfl, hbw⟩

set_option maxRecDepth 100000 in
theorem notOpenAny_any (A : Option Addr) (n c K : Nat) (ps : List PartR) (w : World) (hr : Reads w K 5 A n (partCells ps)) (hn : n ≤ 9223372036854775807) (hK : K ≤ w.heap.size) :
    Calls Tryz.prog 92 #[.slice A n c, .func (.func 93) #[] #[]] w fun e w' => e = .returned (.bool (ps.any fun p => !p.t.opn)) ∧ Below w.heap.size w w' := by
  have HR := Lib.hid (firstT_ge (fun p : PartR => !p.t.opn) ps 0)
  go_enter Tryz.func92, Tryz.ntmps92
  go_wp2_with (go_at_call 118; refine (notOpenIndex_any A n c K ps _ hr hn hK).mono ?_; rintro e w1 ⟨rfl, hb1⟩)
  go_ret
  rw [← HR.out]
  exact ⟨rfl, hb1⟩

theorem rtFold_take {l : List PartT} {k : Nat} {x : PartT} {st : RtS} (h : rtFold (some rtInit) (l.take k) = some st) (hx : l[k]? = some x) : rtFold (some rtInit) (l.take (k + 1)) = rtStep st x := by
  rw [List.take_add_one, hx, Option.toList_some, rtFold_snoc, h]; rfl
theorem right6_false {l : List PartT} {k : Nat} {x : PartT} {st : RtS} (h : rtFold (some rtInit) (l.take k) = some st) (hx : l[k]? = some x) (hs : rtStep st x = none) : right6 l = false := by
  have h1 := rtFold_take h hx
  rw [hs] at h1
  have h2 : rtFold (some rtInit) l = none := by
    rw [← List.take_append_drop (k + 1) l]
    unfold rtFold at h1 ⊢
    rw [List.foldl_append, h1]
    exact rtFold_none _
  unfold right6
  rw [h2]; rfl
/-- what holds of the state on the way -/
def RtOk (st : RtS) (k : Nat) (prev : Option PartT) : Prop := 0 ≤ st.least ∧ 0 ≤ st.most ∧ st.most ≤ (st.inn.length : Int) ∧ st.inn.length ≤ k ∧ st.prev = prev
theorem RtOk.step {st st' : RtS} {k : Nat} {prev : Option PartT} {x : PartT} (h : RtOk st k prev) (hs : rtStep st x = some st') : RtOk st' (k + 1) (some x) := by
  obtain ⟨h1, h2, h3, h4, _⟩ := h
  obtain ⟨g1, g2, _, _, _, rfl⟩ := rtStep_some hs
  have hl : (rtIn st x).length = x.depth.toNat + 1 := by unfold rtIn; simp; omega
  refine ⟨?_, ?_, ?_, ?_, rfl⟩
  · show 0 ≤ (if x.opn = true then x.depth + 1 else st.least)
    split <;> omega
  · show 0 ≤ (if x.div = true then x.depth + 1 else x.depth)
    split <;> omega
  · show (if x.div = true then x.depth + 1 else x.depth) ≤ ((rtIn st x).length : Int)
    rw [hl]
    split <;> omega
  · show (rtIn st x).length ≤ k + 1
    rw [hl]; omega
theorem rtOk_take (l : List PartT) : ∀ (k : Nat) (st : RtS), k ≤ l.length → rtFold (some rtInit) (l.take k) = some st → RtOk st k (if k = 0 then none else l[k - 1]?)
  | 0, st, _, h => by
    have : rtInit = st := Option.some.inj h
    subst this
    exact ⟨Int.le_refl _, Int.le_refl _, Int.le_refl _, Nat.le_refl _, rfl⟩
  | k + 1, st, hk, h => by
    obtain ⟨x, hx⟩ : ∃ x, l[k]? = some x := ⟨_, List.getElem?_eq_getElem (by omega)⟩
    rcases h0 : rtFold (some rtInit) (l.take k) with _ | st0
    · rw [List.take_add_one, hx, Option.toList_some, rtFold_snoc, h0] at h; cases h
    · rw [rtFold_take h0 hx] at h
      have := (rtOk_take l k st0 (by omega) h0).step h
      rw [if_neg (by omega)]
      simpa [hx] using this
end Go.Proofs.YteeoohnkfdffnaaGreatDoor
