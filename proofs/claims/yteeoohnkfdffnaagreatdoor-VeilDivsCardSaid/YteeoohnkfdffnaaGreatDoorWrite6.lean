/-
  frame.Write, with the function within it that ends divisions: contracts.
-/
import Derived.Test.YteeoohnkfdffnaaGreatDoorRight2
namespace Go.Proofs.YteeoohnkfdffnaaGreatDoor
open Go.RowKit

/-- what a Write holds: two variables, with their rows -/
structure WSt (w : World) (base gi go : Nat) (Ai : Option Addr) (ci : Nat) (out : List ByteArray) (rs : List PartR) : Prop where
  bi : Blk w gi 70 #[.slice Ai rs.length ci]
  own : Own w base 73 5 Ai rs.length ci (partCells rs)
  bo : ∃ Ao co, Blk w go 22 #[.slice Ao out.length co] ∧ Own w base 9 1 Ao out.length co (txCells out)
theorem WSt.below {w w' : World} {base gi go K ci : Nat} {Ai : Option Addr} {out : List ByteArray} {rs : List PartR} (h : WSt w base gi go Ai ci out rs) (hb : Below K w w') (hK : w.heap.size ≤ K) : WSt w' base gi go Ai ci out rs := by
  obtain ⟨h1, h2, Ao, co, h3, h4⟩ := h
  exact ⟨h1.below hb (by have := h1.lt; omega), h2.below hb hK, Ao, co, h3.below hb (by have := h3.lt; omega), h4.below hb hK⟩
theorem WSt.alloc {w : World} {base gi go ci : Nat} {Ai : Option Addr} {out : List ByteArray} {rs : List PartR} (h : WSt w base gi go Ai ci out rs) (o : Obj) : WSt (w.alloc o) base gi go Ai ci out rs := by
  obtain ⟨h1, h2, Ao, co, h3, h4⟩ := h
  exact ⟨h1.alloc o, h2.alloc o, Ao, co, h3.alloc o, h4.alloc o⟩
/-- blocks that hold a part stay -/
def KeepsP (w w' : World) : Prop := ∀ k cs, Blk w k 73 cs → Blk w' k 73 cs
theorem KeepsP.trans {a b c : World} (h : KeepsP a b) (k : KeepsP b c) : KeepsP a c := fun i cs hi => k i cs (h i cs hi)
theorem KeepsP.alloc (w : World) (o : Obj) : KeepsP w (w.alloc o) := fun _ _ h => h.alloc o
theorem KeepsP.set_ {w : World} {g t : Nat} {cs : Array Value} (h : Blk w g t cs) (hne : t ≠ 73) (u : Value) : KeepsP w (w.setCell ⟨g, 0, none⟩ u) := fun _ _ hk => hk.far (hk.ne_ h (Ne.symm hne)) u
theorem KeepsP.only {w w' : World} {base n c : Nat} {A : Option Addr} {xs : List Value} (h : Own w base 9 1 A n c xs) (ho : Only w w' A) : KeepsP w w' := fun _ _ hk => hk.only ho (h.blk_ne hk (by decide))

theorem Own.setBlk {w : World} {base e size n c g t : Nat} {A : Option Addr} {xs : List Value} {cs : Array Value} (h : Own w base e size A n c xs) (hb : Blk w g t cs) (hne : e ≠ t) (u : Value) : Own (w.setCell ⟨g, 0, none⟩ u) base e size A n c xs :=
  h.only (only_setCell w g 0 u) (fun a b ha hb' => by
    injection hb' with hb'
    rw [← hb']
    exact h.blk_ne hb hne a ha)

def lenAt (w : World) (p : Addr) : Nat := match w.cell? p with
  | some (.slice _ n _) => n
  | _ => 0
theorem notOpn_snoc (l : List PartT) (x : PartT) (d : Nat) (h : d ≤ l.length) : notOpn ((l ++ [x]).drop d) = notOpn (l.drop d) + (if x.opn then 0 else 1) := by
  unfold notOpn
  rw [List.drop_append_of_le_length h, List.countP_append]
  cases h : x.opn <;> simp [h]

set_option maxHeartbeats 4000000 in
set_option maxRecDepth 100000 in
theorem end_any (base gi go d : Nat) (Ai : Option Addr) (ci : Nat) (out : List ByteArray) (rs : List PartR) (w : World) (h : WSt w base gi go Ai ci out rs) (h1 : base ≤ gi) (h2 : base ≤ go) (hbs : base ≤ w.heap.size) (hd : d ≤ 1048576) (hN : out.length + rs.length ≤ 1099511627776) :
    Calls Tryz.prog 74 #[.int .i64 (d : Int), .pointer (some ⟨gi, 0, none⟩), .pointer (some ⟨go, 0, none⟩)] w fun e w' => e = .returned (.tuple #[]) ∧
      WSt w' base gi go Ai ci (out ++ List.replicate (notOpn ((rs.map (·.t)).drop d)) shutB) (rs.take d) ∧ Below base w w' ∧ KeepsP w w' := by
  have HN := Lib.hid hN
  clear hN
  go_enter Tryz.func74, Tryz.ntmps74
  go_wp2_with fail
  go_loopw [4] (fun _ wr => ∃ (m : Nat) (out' : List ByteArray), m ≤ rs.length ∧ min d rs.length ≤ m ∧ WSt wr base gi go Ai ci out' (rs.take m) ∧ out'.length + m ≤ out.length + rs.length ∧
    out' ++ List.replicate (notOpn (((rs.take m).map (·.t)).drop d)) shutB = out ++ List.replicate (notOpn ((rs.map (·.t)).drop d)) shutB ∧ base ≤ wr.heap.size ∧ Below base w wr ∧ KeepsP w wr) (fun _ wr => lenAt wr ⟨gi, 0, none⟩)
  case atStart => exact ⟨rs.length, out, Nat.le_refl _, Nat.min_le_right _ _, by rw [List.take_length]; exact h, Nat.le_refl _, by rw [List.take_length], hbs, Below.refl _ _, fun _ _ h => h⟩
  case round =>
    obtain ⟨m, out', hm, hmd, hW, hNm, hout, hbr, hb, hkp⟩ := hrel
    obtain ⟨b1, own, Ao, co, b2, own2⟩ := hW
    have hml : (rs.take m).length = m := by rw [List.length_take]; omega
    rw [hml] at b1 own
    have HO := Lib.hid hout
    have HML := Lib.hid hml
    have HNM := Lib.hid hNm
    have HMD := Lib.hid hmd
    clear hout hml hNm hmd
    have e0 : wr.cell? ⟨gi, 0, none⟩ = some (.slice Ai m ci) := b1.cell 0
    by_cases hlt : d < m
    · obtain ⟨j, rfl⟩ : ∃ j, m = j + 1 := ⟨m - 1, by omega⟩
      obtain ⟨p, hp⟩ : ∃ p, rs[j]? = some p := ⟨_, List.getElem?_eq_getElem (by omega)⟩
      have hpj : (rs.take (j + 1))[j]? = some p := by rw [List.getElem?_take, if_pos (by omega)]; exact hp
      obtain ⟨g, rfl, hgb, hgl⟩ := own.some_ (by omega)
      have k3 : wr.cell? ⟨g, j * 5 + 3, none⟩ = some (.bool p.t.opn) := own.cell ((flat_get PartR.cells 5 part_len (rs.take (j + 1)) j 3 (by omega) hpj).trans rfl)
      have hcap := own.cap
      have hmeas : Hid (lenAt wr ⟨gi, 0, none⟩ = j + 1) := Lib.hid (by unfold lenAt; rw [e0])
      have HTK : Hid (notOpn (((rs.take (j + 1)).map (·.t)).drop d) = notOpn (((rs.take j).map (·.t)).drop d) + (if p.t.opn then 0 else 1)) := Lib.hid (by
        rw [List.take_add_one, hp, Option.toList_some, List.map_append]
        exact notOpn_snoc _ _ _ (by simp; omega))
      have f0 := b1.frozen 0
      have f1 := b2.frozen 0
      have e1 : wr.cell? ⟨go, 0, none⟩ = some (.slice Ao out'.length co) := b2.cell 0
      have hjn : j + 1 ≤ 1099511627776 := by have := HN.out; omega
      have hon : out'.length + 1 ≤ 1099511627777 := by have := HN.out; have := HNM.out; omega
      have hti : (rs.take (j + 1)).take j = rs.take j := by rw [List.take_take, Nat.min_eq_left (by omega)]
      have hownj : Own wr base 73 5 (some ⟨g, 0, none⟩) j ci (partCells (rs.take j)) := by
        have := own.take (m := j) (by omega)
        rwa [partCells_take, hti] at this
      have hjl : (rs.take j).length = j := by rw [List.length_take]; omega
      have HJL := Lib.hid hjl
      clear hp hpj hti hjl
      cases hop : p.t.opn
      · rw [hop] at k3
        have HOP : Hid (notOpn (((rs.take (j + 1)).map (·.t)).drop d) = notOpn (((rs.take j).map (·.t)).drop d) + 1) := Lib.hid (by rw [HTK.out, hop]; rfl)
        clear HTK hop
        generalize hol : out'.length = ol at *
        have HOL := Lib.hid hol
        clear hol
        go_upto_region 3 with (at_builtin; refine wpList_app1 Tryz.elTexts rfl (.tmp 16) (.tmp 17) rfl rfl (by exact own2.alloc _) rfl (Blk.new' _ _ _ _ (by simp)) rfl (by simp [Value.oneCell']) (by simp only [maxLen]; omega) (by omega) (by simp; omega) ?_
                               intro A2 c2 w2 hr2 ho2 hm2
                               have b1' := (b1.alloc (.cells #[.string ⟨#[58, 58, 58]⟩] 9)).only ho2 (own2.blk_ne b1 (by decide))
                               have b2' := (b2.alloc (.cells #[.string ⟨#[58, 58, 58]⟩] 9)).only ho2 (own2.blk_ne b2 (by decide))
                               have hown' := (hownj.alloc (.cells #[.string ⟨#[58, 58, 58]⟩] 9)).only ho2 (hownj.sep_ne own2 (by decide))
                               have hk2 := (KeepsP.alloc wr (.cells #[.string ⟨#[58, 58, 58]⟩] 9)).trans (KeepsP.only (own2.alloc _) ho2)
                               have hb2 := hb.trans (ho2.of_alloc.below (fun a ha => (own2.lt ha).1) hbr)
                               have g1 := b2'.frozen 0
                               have g2 : w2.cell? ⟨go, 0, none⟩ = some (.slice Ao ol co) := b2'.cell 0)
        have b2'' : Blk (w2.setCell ⟨go, 0, none⟩ (.slice A2 (ol + 1) c2)) go 22 #[.slice A2 (ol + 1) c2] := b2'.set_ 0 _
        have b1'' := b1'.far (p := ⟨go, 0, none⟩) (b1'.ne_ b2' (by decide)) (.slice A2 (ol + 1) c2)
        have hown'' := hown'.setBlk b2' (by decide) (.slice A2 (ol + 1) c2)
        have hr2'' := hr2.setBlk b2' (by decide) (.slice A2 (ol + 1) c2)
        have hk3 := hk2.trans (KeepsP.set_ b2' (by decide) (.slice A2 (ol + 1) c2))
        have hb3 := hb2.setCell (p := ⟨go, 0, none⟩) h2 (.slice A2 (ol + 1) c2)
        generalize w2.setCell ⟨go, 0, none⟩ (.slice A2 (ol + 1) c2) = w3 at *
        have b1f : Blk (w3.setCell ⟨gi, 0, none⟩ (.slice (some ⟨g, 0, none⟩) j ci)) gi 70 #[.slice (some ⟨g, 0, none⟩) j ci] := b1''.set_ 0 _
        have y0 : w3.cell? ⟨gi, 0, none⟩ = some (.slice (some ⟨g, 0, none⟩) (j + 1) ci) := b1''.cell 0
        have y1 := b1''.frozen 0
        go_wp2_with fail
        go_roundw
        case rel =>
          refine ⟨j, out' ++ [shutB], by omega, by have := HMD.out; omega, ⟨by rw [HJL.out]; exact b1f, by rw [HJL.out]; exact hown''.setBlk b1'' (by decide) _, A2, c2, ?_, ?_⟩, ?_, ?_, ?_, ?_, ?_⟩
          · have := b2''.far (p := ⟨gi, 0, none⟩) (b2''.ne_ b1'' (by decide)) (.slice (some ⟨g, 0, none⟩) j ci)
            rw [List.length_append, HOL.out]; exact this
          · have := hr2''.setBlk b1'' (by decide) (.slice (some ⟨g, 0, none⟩) j ci)
            rw [List.length_append, HOL.out]
            simpa [txCells, shutB] using this
          · have := HNM.out
            rw [List.length_append, HOL.out]; simp only [List.length_singleton]; omega
          · rw [← HO.out, HOP.out, List.append_assoc]
            rfl
          · have := hb3.size; simp [World.setCell]; omega
          · exact hb3.setCell (p := ⟨gi, 0, none⟩) h1 _
          · exact hkp.trans (hk3.trans (KeepsP.set_ b1'' (by decide) _))
        case measure =>
          have : lenAt (w3.setCell ⟨gi, 0, none⟩ (.slice (some ⟨g, 0, none⟩) j ci)) ⟨gi, 0, none⟩ = j := by unfold lenAt; rw [show (w3.setCell ⟨gi, 0, none⟩ (.slice (some ⟨g, 0, none⟩) j ci)).cell? ⟨gi, 0, none⟩ = some (.slice (some ⟨g, 0, none⟩) j ci) from b1f.cell 0]
          have := hmeas.out
          omega
      · rw [hop] at k3
        have HOP : Hid (notOpn (((rs.take (j + 1)).map (·.t)).drop d) = notOpn (((rs.take j).map (·.t)).drop d)) := Lib.hid (by rw [HTK.out, hop]; rfl)
        clear HTK hop
        have b1f : Blk (wr.setCell ⟨gi, 0, none⟩ (.slice (some ⟨g, 0, none⟩) j ci)) gi 70 #[.slice (some ⟨g, 0, none⟩) j ci] := b1.set_ 0 _
        have b2f := b2.far (p := ⟨gi, 0, none⟩) (b2.ne_ b1 (by decide)) (.slice (some ⟨g, 0, none⟩) j ci)
        have o2f := own2.setBlk b1 (by decide) (.slice (some ⟨g, 0, none⟩) j ci)
        have o1f := hownj.setBlk b1 (by decide) (.slice (some ⟨g, 0, none⟩) j ci)
        have hbf := hb.setCell (p := ⟨gi, 0, none⟩) h1 (.slice (some ⟨g, 0, none⟩) j ci)
        have hkf := KeepsP.set_ b1 (by decide) (.slice (some ⟨g, 0, none⟩) j ci)
        go_wp2_with fail
        go_roundw
        case rel =>
          exact ⟨j, out', by omega, by have := HMD.out; omega, ⟨by rw [HJL.out]; exact b1f, by rw [HJL.out]; exact o1f, Ao, co, b2f, o2f⟩, by have := HNM.out; omega, by rw [← HO.out, HOP.out], by simp [World.setCell]; omega, hbf, hkp.trans hkf⟩
        case measure =>
          have : lenAt (wr.setCell ⟨gi, 0, none⟩ (.slice (some ⟨g, 0, none⟩) j ci)) ⟨gi, 0, none⟩ = j := by unfold lenAt; rw [show (wr.setCell ⟨gi, 0, none⟩ (.slice (some ⟨g, 0, none⟩) j ci)).cell? ⟨gi, 0, none⟩ = some (.slice (some ⟨g, 0, none⟩) j ci) from b1f.cell 0]
          have := hmeas.out
          omega
    · have hmm : m = min d rs.length := by have := HMD.out; omega
      have hz : ¬ (d : Int) < (m : Int) := by omega
      go_wp2_with fail
      go_end0
      have htk : rs.take d = rs.take m := by
        rw [hmm]
        rcases Nat.le_total d rs.length with h | h
        · rw [Nat.min_eq_left h]
        · rw [Nat.min_eq_right h, List.take_of_length_le h, List.take_length]
      have hnil : ((rs.take m).map (·.t)).drop d = [] := List.drop_eq_nil_of_le (by rw [List.length_map, HML.out]; omega)
      have hout := HO.out
      rw [hnil] at hout
      have hout' : out' = out ++ List.replicate (notOpn ((rs.map (·.t)).drop d)) shutB := by rw [← hout]; simp [notOpn]
      rw [htk, ← hout']
      exact ⟨rfl, ⟨by rw [HML.out]; exact b1, by rw [HML.out]; exact own, Ao, co, b2, own2⟩, hb, hkp⟩
end Go.Proofs.YteeoohnkfdffnaaGreatDoor
