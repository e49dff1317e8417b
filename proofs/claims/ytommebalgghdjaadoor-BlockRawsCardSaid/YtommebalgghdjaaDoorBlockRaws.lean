/-
  bowdlerlaw9.BlockRaws: its walk: it answers true, and turns nothing that was there.
-/
import Derived.Test.YtommebalgghdjaaDoorBlockStart
import Derived.Test.YtommebalgghdjaaDoorBlockCodeLaw
namespace Go.Proofs.YtommebalgghdjaaDoor
open Go.RowKit

def tagS : ByteArray := ⟨#[60, 98, 62]⟩
def endS : ByteArray := ⟨#[101, 110, 100]⟩
theorem raws_bs {l : List ByteArray} (h : ∀ x ∈ l, blankT (L x) = false) : parseT ((tagS :: l ++ [⟨#[]⟩, endS]).map L) = [⟨8, 0, 0, false, joinT ([tagB] ++ l.map L), []⟩, ⟨1, 0, 0, false, endB, []⟩] := by
  have := raws_law (l := l.map L) (fun x hx => by obtain ⟨y, hy, rfl⟩ := List.mem_map.1 hx; exact h y hy)
  rw [List.map_append, List.map_cons]
  exact this
theorem take_all {α : Type} {P : α → Prop} {l : List α} {k : Nat} {x : α} (hx : l[k]? = some x) (h : ∀ y ∈ l.take k, P y) (hp : P x) : ∀ y ∈ l.take (k + 1), P y := by
  intro y hy
  rw [List.take_add_one, hx, Option.toList_some, List.mem_append, List.mem_singleton] at hy
  rcases hy with hy | rfl
  · exact h y hy
  · exact hp
theorem take_snoc {α : Type} {l : List α} {k : Nat} {x : α} (hx : l[k]? = some x) : l.take (k + 1) = l.take k ++ [x] := by
  rw [List.take_add_one, hx]; rfl

set_option maxHeartbeats 3000000 in
set_option maxRecDepth 100000 in
theorem blockRaws_walk (A : Option Addr) (n cap : Nat) (l : List ByteArray) (w : World) (_ : Glb w) (hl : IsTexts w A n cap l) :
    Calls Tryd.prog 13 #[.slice A n cap] w fun e w' => e = .returned (.bool true) ∧ Below w.heap.size w w' := by
  obtain ⟨hr, hnc, hcm, hz⟩ := hl
  have hmax : maxLen = 9223372036854775807 := rfl
  have hln : l.length = n := by have := hr.1; simpa using this
  have HLN := Lib.hid hln
  have HZ := Lib.hid hz
  clear hln hz
  by_cases h20 : 20 < n
  · go_enter Tryd.func13, Tryd.ntmps13
    go_wp2_with (go_at_call 16; refine (aliveB_any _).mono ?_; rintro e w1 ⟨rfl, b1⟩)
    go_ret
    exact ⟨rfl, b1⟩
  go_enter Tryd.func13, Tryd.ntmps13
  go_upto_region 4 with (go_at_call 16; refine (aliveB_any _).mono ?_; rintro e w1 ⟨rfl, b1⟩)
  have z1 := b1.size
  go_upto_region 5 with fail
  have hown0 : Own (w1.alloc (.cells #[.string ⟨#[60, 98, 62]⟩] 9)) w.heap.size 9 1 (some ⟨w1.heap.size, 0, none⟩) 1 1 (txCells (tagS :: l.take 0)) := by
    have := World.ownsRow_lit (base := w.heap.size) (e := 9) (size := 1) w1 #[.string ⟨#[60, 98, 62]⟩] 1 z1 (by unfold maxLen; omega) (by simp)
    simpa [Own, txCells, tagS] using this
  have b2 : Below w.heap.size w (w1.alloc (.cells #[.string ⟨#[60, 98, 62]⟩] 9)) := b1.alloc z1 _
  generalize w1.alloc (.cells #[.string ⟨#[60, 98, 62]⟩] 9) = w2 at *
  go_wp2_with fail
  go_loopw [3, 4, 20] (fun s3 s4 s20 wr => ∃ (k : Nat) (A3 : Option Addr) (c3 : Nat) (W : ByteArray), k ≤ n ∧ s20 = .int .i64 k ∧ s3 = .string W ∧ S (joinT ([tagB] ++ (l.take k).map L)) = W ∧ W.size ≤ 4 + 61 * k ∧ s4 = .slice A3 (k + 1) c3 ∧
    Own wr w.heap.size 9 1 A3 (k + 1) c3 (txCells (tagS :: l.take k)) ∧ Below w.heap.size w wr ∧ (∀ x ∈ l.take k, blankT (L x) = false ∧ x.size ≤ 60)) (fun _ _ s20 _ => n - (intOf s20).toNat)
  case atStart => exact ⟨0, _, 1, ⟨#[60, 98, 62, 10]⟩, Nat.zero_le _, rfl, rfl, rfl, by decide, rfl, hown0, b2, by simp⟩
  case round =>
    clear hown0 b2
    obtain ⟨k, A3, c3, W, hk, rfl, rfl, hW, hWs, rfl, hown, hb, hall⟩ := hrel
    have HW := Lib.hid hW
    have HALL := Lib.hid hall
    clear hW hall
    have hzw := hb.size
    by_cases hlt : k < n
    · obtain ⟨ad, u, rfl, _, hx0, hc⟩ := (hr.below hb).at_ hlt
      obtain ⟨x, hx, rfl⟩ : ∃ x, l[k]? = some x ∧ Value.string x = u := by simpa using hx0
      have hxz := HZ.out x (List.mem_of_getElem? hx)
      have HX := Lib.hid hx
      clear hx hx0
      by_cases h60 : 60 < x.size
      · go_wp2_with fail
        go_ret
        exact ⟨rfl, hb⟩
      · have HBL := Lib.hid (blank_any x wr (by omega))
        cases hbx : blankT (L x)
        case true =>
          rw [hbx] at HBL
          go_wp2_with (go_at_call 22; refine HBL.out.mono ?_; rintro e w3 ⟨rfl, b3⟩)
          go_ret
          exact ⟨rfl, hb.trans (b3.mono hzw)⟩
        case false =>
          rw [hbx] at HBL
          have HBX := Lib.hid hbx
          go_wp2_with (go_at_call 22; refine HBL.out.mono ?_; rintro e w3 ⟨rfl, b3⟩)
          have hb3 := hb.trans (b3.mono hzw)
          have hown3 := hown.below b3 (Nat.le_refl _)
          have hz3 := hb3.size
          clear hown hb b3 hc HBL hbx
          go_loop [7] (fun s7 => ∃ j : Nat, j ≤ x.size ∧ s7 = .int .i64 j) (fun s7 => x.size - (intOf s7).toNat)
          case atStart => exact ⟨0, Nat.zero_le _, rfl⟩
          case round =>
            obtain ⟨j, hj, rfl⟩ := hrel
            by_cases hjl : j < x.size
            · by_cases hq : x[j]'hjl = 10
              · go_wp2_with fail
                go_ret
                exact ⟨rfl, hb3⟩
              · have q : ((x[j].toNat : Int) == 10) = false := byte_ne (n := 10) (by decide) hq
                clear hq
                go_wp2_with fail
                go_round
                case rel => exact ⟨j + 1, by omega, by go_num⟩
                case measure => simp [intOf]; omega
            · have r1 : ¬ 9223372036854775807 < x.size + (⟨#[10]⟩ : ByteArray).size := by have : (⟨#[10]⟩ : ByteArray).size = 1 := rfl; omega
              have hxs : (x ++ (⟨#[10]⟩ : ByteArray)).size = x.size + 1 := by rw [ByteArray.size_append]; rfl
              have r2 : ¬ 9223372036854775807 < W.size + (x ++ (⟨#[10]⟩ : ByteArray)).size := by omega
              have HXS := Lib.hid hxs
              clear hxs
              go_wp2_with (at_builtin; refine wpList_app1 Tryd.elTexts rfl (.tmp 41) (.tmp 43) rfl rfl (by exact hown3.alloc _) rfl (Blk.new' _ _ _ _ (by simp)) rfl (by simp [Value.oneCell']) (by simp only [maxLen]; omega) (by omega) (by simp; omega) ?_
                           intro A4 c4 w5 hown4 ho4 hm4)
              go_roundw
              case rel =>
                refine ⟨k + 1, A4, c4, W ++ (x ++ ⟨#[10]⟩), by omega, by go_num, rfl, by rw [want_snoc _ l HX.out, HW.out], by rw [ByteArray.size_append, HXS.out]; omega, by rfl, ?_, hb3.trans (ho4.of_alloc.below (fun a ha => (hown3.lt ha).1) hz3), take_all HX.out HALL.out ⟨HBX.out, by omega⟩⟩
                rw [take_snoc HX.out]
                simpa [txCells] using hown4
              case measure => simp [intOf]; omega
    · have hkn : k = n := by omega
      subst hkn
      have hta : l.take k = l := List.take_of_length_le (by rw [HLN.out]; exact Nat.le_refl _)
      rw [hta] at HW HALL hown
      clear hta
      go_wp2_with (first
        | (at_builtin; refine wpList_app Tryd.elTexts rfl (.tmp 50) (.tmp 51) rfl rfl (by exact hown.alloc _) rfl (reads_fresh wr _ _ 1 2 _ rfl rfl) (by simp [Value.oneCell']) (by simp only [maxLen]; omega) (by omega) (by simp; omega) ?_
           intro A4 c4 w5 hown4 ho4 hm4
           have hb5 := hb.trans (ho4.of_alloc.below (fun a ha => (hown.lt ha).1) hzw)
           have hz5 := hb5.size
           have hown5 : Own w5 w.heap.size 9 1 A4 (k + 1 + 2) c4 (txCells (tagS :: l ++ [⟨#[]⟩, endS])) := by simpa [txCells, endS] using hown4
           have hp := parse_any w5.heap.size (tagS :: l ++ [⟨#[]⟩, endS]) A4 (k + 1 + 2) c4 w5 hown5.reads (Nat.le_refl _) (lnOk_of (by
             intro y hy
             rcases List.mem_append.1 hy with hy | hy
             · rcases List.mem_cons.1 hy with rfl | hy
               · decide
               · have := (HALL.out y hy).2; omega
             · simp only [List.mem_cons, List.not_mem_nil, or_false] at hy
               rcases hy with rfl | rfl <;> decide)) (by omega) hown5.cap
           rw [raws_bs (fun x hx => (HALL.out x hx).1)] at hp
           have HP := Lib.hid hp
           clear hp)
        | (go_at_call 17; refine HP.out.mono ?_; rintro e w6 ⟨Ao, m, co, rfl, hm, hO, b6⟩
           have hb6 := hb5.trans (b6.mono hz5)
           have hm2 : m = 2 := hm.symm
           subst hm2
           obtain ⟨g, rfl, _, _⟩ := hO.some_ (by omega)
           have k0 := hO.cell (j := 0) rfl
           have k1 := hO.cell (j := 1) rfl
           have k2 := hO.cell (j := 2) rfl
           have k3 := hO.cell (j := 3) rfl
           have k4 : w6.cell? ⟨g, 4, none⟩ = some (.string W) := by rw [← HW.out]; exact hO.cell (j := 4) rfl
           have k5 : w6.cell? ⟨g, 5, none⟩ = some (.string ⟨#[]⟩) := hO.cell (j := 5) rfl
           have k6 := hO.cell (j := 6) rfl
           have k7 := hO.cell (j := 7) rfl
           have k8 := hO.cell (j := 8) rfl
           have k9 := hO.cell (j := 9) rfl
           have k10 : w6.cell? ⟨g, 10, none⟩ = some (.string ⟨#[101, 110, 100]⟩) := hO.cell (j := 10) rfl
           have k11 : w6.cell? ⟨g, 11, none⟩ = some (.string ⟨#[]⟩) := hO.cell (j := 11) rfl
           clear hO))
      go_ret
      exact ⟨rfl, hb6⟩
end Go.Proofs.YtommebalgghdjaaDoor
