/- Joined texts: RefEdge, RefLeastU, RefLeastD, RefMat2. -/
import Derived.Test.YtgdnphmannbpgaaGreatDoorGW
import Derived.Deep.DeepCutAuto
/-
  bowdlerref1: (*Order).least and Edge (printed by mkleast.py).
-/
namespace Go.Proofs.YtgdnphmannbpgaaGreatDoor
open Go.RowKit
set_option linter.unusedVariables false

def optI : Option Nat → Int
  | some c => (c : Int)
  | none => -1
theorem TabB.at_ {w : World} {K n : Nat} {A : Option Addr} {F : Nat → Nat → Bool} (h : TabB w K A n F) {a b : Nat} (ha : a < n) (hb : b < n) :
    ∃ ad r c, A = some ad ∧ w.cell? (ad.add a) = some (.slice (some r) n c) ∧ w.cell? (r.add b) = some (.bool (F a b)) := by
  obtain ⟨ad, rfl, _, h⟩ := h
  obtain ⟨B, c, h1, h2⟩ := h a ha
  obtain ⟨r, u, rfl, _, h3, h4⟩ := h2.at_ hb
  have : u = .bool (F a b) := by
    rw [List.getElem?_map, List.getElem?_range hb] at h3
    exact (Option.some.inj h3).symm
  subst this
  exact ⟨ad, r, c, rfl, h1, h4⟩
theorem bothL_succ (M : Nat → Nat → Bool) (a b x : Nat) : bothL M a b (x + 1) = bothL M a b x ++ (if M a x && M b x then [x] else []) := by
  unfold bothL
  rw [List.range_succ, List.filter_append]
  congr 1
  rw [List.filter_cons]
  simp only [List.filter_nil]
theorem i64s_get {l : List Nat} {i x : Nat} (h : l[i]? = some x) : (i64s l)[i]? = some (.int .i64 (x : Int)) := by
  unfold i64s; rw [List.getElem?_map, h]; rfl
theorem all_take {l : List Nat} {q : Nat → Bool} {k y : Nat} (h : l[k]? = some y) : (l.take (k + 1)).all q = ((l.take k).all q && q y) := by
  rw [List.take_add_one, h, Option.toList_some, List.all_append]; simp
theorem find_drop {l : List Nat} {q : Nat → Bool} {i x : Nat} (h : l[i]? = some x) : (l.drop i).find? q = if q x then some x else (l.drop (i + 1)).find? q := by
  rw [drop_one h, List.find?_cons]
  cases q x <;> rfl

set_option maxHeartbeats 4000000 in
set_option maxRecDepth 100000 in
theorem refEdgeU_any (p n K : Nat) (A : Option Addr) (d : Nat) (B1 B2 : Value) (F : Nat → Nat → Bool) (w : World) (hB : Blk w p 85 #[.int .i64 (n : Int), .slice A n d, B1, B2]) (hT : TabB w K A n F) (hn : n ≤ 64) :
    Calls Tryz.prog 40 #[.pointer (some ⟨p, 0, none⟩), .bool true] w fun e w' => e = .returned (.int .i64 (optI (edgeF F n))) ∧ w' = w := by
  obtain ⟨M, hM⟩ : ∃ M : Nat → Nat → Bool, F = M := ⟨_, rfl⟩
  have HM : Hid (∀ x y, M x y = F x y) := Lib.hid (fun x y => by rw [← hM])
  rw [hM]
  clear hM
  have k0 := hB.cell 0
  have k1 : w.cell? ⟨p, 0 + 1, none⟩ = some (.slice A n d) := hB.cell 1
  go_enter Tryz.func40, Tryz.ntmps40
  go_wp2_with fail
  go_loop [5] (fun s5 => ∃ x : Nat, x ≤ n ∧ s5 = .int .i64 (x : Int) ∧ Hid (edgeF M n = ((List.range n).drop x).find? fun c => (List.range n).all fun y => M y c)) (fun s5 => n - (intOf s5).toNat)
  case atStart => exact ⟨0, Nat.zero_le _, rfl, Lib.hid rfl⟩
  case round =>
    obtain ⟨x, hx, rfl, HX⟩ := hrel
    by_cases hlt : x < n
    · have HFD := Lib.hid (find_drop (l := List.range n) (q := fun c => (List.range n).all fun y => M y c) (List.getElem?_range hlt))
      go_wp2_with fail
      go_loop [6, 7] (fun s6 s7 => ∃ k : Nat, k ≤ n ∧ s7 = .int .i64 (k : Int) ∧ s6 = .bool (((List.range n).take k).all fun y => M y x)) (fun _ s7 => n - (intOf s7).toNat)
      case atStart => exact ⟨0, Nat.zero_le _, rfl, rfl⟩
      case round =>
        obtain ⟨k, hk, rfl, rfl⟩ := hrel
        by_cases hlt2 : k < n
        · have hat := all_take (q := fun y => M y x) (List.getElem?_range hlt2)
          obtain ⟨ad, r1, e1, rfl, t1, t2⟩ := hT.at_ hlt2 hlt
          cases hb0 : ((List.range n).take k).all fun y => M y x
          · have HST : Hid (((List.range n).take (k + 1)).all (fun y => M y x) = false) := Lib.hid (by rw [hat, hb0]; rfl)
            clear hat hb0
            go_wp2_with fail
            go_round
            case rel => exact ⟨k + 1, by omega, by go_num, by rw [HST.out]⟩
            case measure => simp [intOf]; omega
          · have HST : Hid (((List.range n).take (k + 1)).all (fun y => M y x) = F k x) := Lib.hid (by rw [hat, hb0, HM.out]; rfl)
            clear hat hb0
            cases f1 : F k x
            all_goals
              rw [f1] at HST t2
              clear f1
              go_wp2_with fail
              go_round
              case rel => exact ⟨k + 1, by omega, by go_num, by rw [HST.out]⟩
              case measure => simp [intOf]; omega
        · have hall : ((List.range n).take k).all (fun y => M y x) = (List.range n).all fun y => M y x := by rw [List.take_of_length_le (by simp; omega)]
          rw [hall]
          have hfd := HFD.out
          clear hall
          cases hb0 : (List.range n).all fun y => M y x
          · have HI2 : Hid (edgeF M n = ((List.range n).drop (x + 1)).find? fun c => (List.range n).all fun y => M y c) := Lib.hid (by rw [HX.out, hfd, hb0]; rfl)
            clear hfd hb0
            go_wp2_with fail
            go_round
            case rel => exact ⟨x + 1, by omega, by go_num, HI2⟩
            case measure => simp [intOf]; omega
          · have HI2 : Hid (edgeF M n = some x) := Lib.hid (by rw [HX.out, hfd, hb0]; rfl)
            clear hfd hb0
            go_wp2_with fail
            go_ret
            exact ⟨by rw [HI2.out]; rfl, rfl⟩
    · have HI2 : Hid (edgeF M n = none) := Lib.hid (by rw [HX.out, List.drop_eq_nil_of_le (by simp; omega)]; rfl)
      go_wp2_with fail
      go_ret
      exact ⟨by rw [HI2.out]; rfl, rfl⟩

set_option maxHeartbeats 4000000 in
set_option maxRecDepth 100000 in
theorem refEdgeD_any (p n K : Nat) (A : Option Addr) (d : Nat) (B1 B2 : Value) (F : Nat → Nat → Bool) (w : World) (hB : Blk w p 85 #[.int .i64 (n : Int), .slice A n d, B1, B2]) (hT : TabB w K A n F) (hn : n ≤ 64) :
    Calls Tryz.prog 40 #[.pointer (some ⟨p, 0, none⟩), .bool false] w fun e w' => e = .returned (.int .i64 (optI (edgeF (fun x y => F y x) n))) ∧ w' = w := by
  obtain ⟨M, hM⟩ : ∃ M : Nat → Nat → Bool, (fun x y => F y x) = M := ⟨_, rfl⟩
  have HM : Hid (∀ x y, M x y = F y x) := Lib.hid (fun x y => by rw [← hM])
  rw [hM]
  clear hM
  have k0 := hB.cell 0
  have k1 : w.cell? ⟨p, 0 + 1, none⟩ = some (.slice A n d) := hB.cell 1
  go_enter Tryz.func40, Tryz.ntmps40
  go_wp2_with fail
  go_loop [5] (fun s5 => ∃ x : Nat, x ≤ n ∧ s5 = .int .i64 (x : Int) ∧ Hid (edgeF M n = ((List.range n).drop x).find? fun c => (List.range n).all fun y => M y c)) (fun s5 => n - (intOf s5).toNat)
  case atStart => exact ⟨0, Nat.zero_le _, rfl, Lib.hid rfl⟩
  case round =>
    obtain ⟨x, hx, rfl, HX⟩ := hrel
    by_cases hlt : x < n
    · have HFD := Lib.hid (find_drop (l := List.range n) (q := fun c => (List.range n).all fun y => M y c) (List.getElem?_range hlt))
      go_wp2_with fail
      go_loop [6, 7] (fun s6 s7 => ∃ k : Nat, k ≤ n ∧ s7 = .int .i64 (k : Int) ∧ s6 = .bool (((List.range n).take k).all fun y => M y x)) (fun _ s7 => n - (intOf s7).toNat)
      case atStart => exact ⟨0, Nat.zero_le _, rfl, rfl⟩
      case round =>
        obtain ⟨k, hk, rfl, rfl⟩ := hrel
        by_cases hlt2 : k < n
        · have hat := all_take (q := fun y => M y x) (List.getElem?_range hlt2)
          obtain ⟨ad, r1, e1, rfl, t1, t2⟩ := hT.at_ hlt hlt2
          cases hb0 : ((List.range n).take k).all fun y => M y x
          · have HST : Hid (((List.range n).take (k + 1)).all (fun y => M y x) = false) := Lib.hid (by rw [hat, hb0]; rfl)
            clear hat hb0
            go_wp2_with fail
            go_round
            case rel => exact ⟨k + 1, by omega, by go_num, by rw [HST.out]⟩
            case measure => simp [intOf]; omega
          · have HST : Hid (((List.range n).take (k + 1)).all (fun y => M y x) = F x k) := Lib.hid (by rw [hat, hb0, HM.out]; rfl)
            clear hat hb0
            cases f1 : F x k
            all_goals
              rw [f1] at HST t2
              clear f1
              go_wp2_with fail
              go_round
              case rel => exact ⟨k + 1, by omega, by go_num, by rw [HST.out]⟩
              case measure => simp [intOf]; omega
        · have hall : ((List.range n).take k).all (fun y => M y x) = (List.range n).all fun y => M y x := by rw [List.take_of_length_le (by simp; omega)]
          rw [hall]
          have hfd := HFD.out
          clear hall
          cases hb0 : (List.range n).all fun y => M y x
          · have HI2 : Hid (edgeF M n = ((List.range n).drop (x + 1)).find? fun c => (List.range n).all fun y => M y c) := Lib.hid (by rw [HX.out, hfd, hb0]; rfl)
            clear hfd hb0
            go_wp2_with fail
            go_round
            case rel => exact ⟨x + 1, by omega, by go_num, HI2⟩
            case measure => simp [intOf]; omega
          · have HI2 : Hid (edgeF M n = some x) := Lib.hid (by rw [HX.out, hfd, hb0]; rfl)
            clear hfd hb0
            go_wp2_with fail
            go_ret
            exact ⟨by rw [HI2.out]; rfl, rfl⟩
    · have HI2 : Hid (edgeF M n = none) := Lib.hid (by rw [HX.out, List.drop_eq_nil_of_le (by simp; omega)]; rfl)
      go_wp2_with fail
      go_ret
      exact ⟨by rw [HI2.out]; rfl, rfl⟩
end Go.Proofs.YtgdnphmannbpgaaGreatDoor
/-
  bowdlerref1: (*Order).least, upwards (printed by mkleast.py).
-/
namespace Go.Proofs.YtgdnphmannbpgaaGreatDoor
open Go.RowKit
set_option linter.unusedVariables false

set_option maxHeartbeats 8000000 in
set_option maxRecDepth 100000 in
theorem refLeastU_any (p n K : Nat) (A : Option Addr) (d : Nat) (B1 B2 : Value) (F : Nat → Nat → Bool) (a b : Nat) (w : World) (hB : Blk w p 85 #[.int .i64 (n : Int), .slice A n d, B1, B2]) (hT : TabB w K A n F) (hK : K ≤ w.heap.size) (ha : a < n) (hb : b < n) (hn : n ≤ 64) :
    Calls Tryz.prog 54 #[.pointer (some ⟨p, 0, none⟩), .int .i64 (a : Int), .int .i64 (b : Int), .bool true] w fun e w' => e = .returned (.int .i64 (optI (leastT F a b n))) ∧ Below w.heap.size w w' := by
  have hpK : p < w.heap.size := hB.lt
  obtain ⟨M, hM⟩ : ∃ M : Nat → Nat → Bool, F = M := ⟨_, rfl⟩
  have HM : Hid (∀ x y, M x y = F x y) := Lib.hid (fun x y => by rw [← hM])
  rw [hM]
  clear hM
  go_enter Tryz.func54, Tryz.ntmps54
  go_wp2_with fail
  go_loopw [9, 10] (fun s9 s10 wr => ∃ (x : Nat) (A1 : Option Addr) (n1 c1 : Nat), x ≤ n ∧ s10 = .int .i64 (x : Int) ∧ s9 = .slice A1 n1 c1 ∧ n1 ≤ x ∧ Own wr w.heap.size 3 1 A1 n1 c1 (i64s (bothL M a b x)) ∧ Below w.heap.size w wr) (fun _ s10 _ => n - (intOf s10).toNat)
  case atStart => exact ⟨0, none, 0, 0, Nat.zero_le _, rfl, rfl, Nat.le_refl _, Own.nil _ _ _ _, Below.refl _ _⟩
  case round =>
    obtain ⟨x, A1, n1, c1, hx, rfl, rfl, hn1, hown, hbl⟩ := hrel
    have hbs := hbl.size
    have k0 := (hB.below hbl hpK).cell 0
    have k1 : wr.cell? ⟨p, 0 + 1, none⟩ = some (.slice A n d) := (hB.below hbl hpK).cell 1
    have hTr := hT.below (hbl.mono hK)
    by_cases hlt : x < n
    · obtain ⟨ad, r1, e1, rfl, h1, h2⟩ := hTr.at_ ha hlt
      obtain ⟨ad2, r2, e2, hae, h3, h4⟩ := hTr.at_ hb hlt
      obtain rfl := Option.some.inj hae
      have hst := bothL_succ M a b x
      rw [HM.out a x, HM.out b x] at hst
      cases f1 : F a x <;> cases f2 : F b x
      case' true.true =>
        rw [f1, f2] at hst
        rw [f1] at h2
        rw [f2] at h4
        have HST : Hid (bothL M a b (x + 1) = bothL M a b x ++ [x]) := Lib.hid hst
        clear hst f1 f2 hae
        go_wp2_with (at_builtin; refine wpList_app1 Tryz.elInts rfl (.tmp 75) (.tmp 77) rfl rfl (by exact hown.alloc _) rfl (Blk.new' _ _ _ _ (by simp)) rfl (by simp [Value.oneCell']) (by simp only [maxLen]; omega) (by omega) (by simp; omega) ?_
                     intro A3 c3 w3 hown3 ho3 hm3)
        go_roundw
        case rel =>
          refine ⟨x + 1, A3, n1 + 1, c3, by omega, by go_num, rfl, by omega, ?_, hbl.trans (ho3.of_alloc.below (fun a ha => (hown.lt ha).1) hbs)⟩
          rw [HST.out, i64s_snoc]
          exact hown3
        case measure => simp [intOf]; omega
      all_goals
        rw [f1, f2] at hst
        rw [f1] at h2
        rw [f2] at h4
        have HST : Hid (bothL M a b (x + 1) = bothL M a b x) := Lib.hid (by rw [hst]; simp)
        clear hst f1 f2 hae
        go_wp2_with fail
        go_roundw
        case rel => exact ⟨x + 1, A1, n1, c1, by omega, by go_num, rfl, by omega, by rw [HST.out]; exact hown, hbl⟩
        case measure => simp [intOf]; omega
    · have hxn : x = n := by omega
      rw [hxn] at hown
      have hlen : (bothL M a b n).length = n1 := by have := hown.len; unfold i64s at this; simpa using this
      have hmem : ∀ y ∈ bothL M a b n, y < n := fun y hy => (bothL_mem.1 hy).1
      have HLeast : Hid (leastT M a b n = (bothL M a b n).find? fun c => (bothL M a b n).all fun y => M c y) := Lib.hid rfl
      obtain ⟨l, hl⟩ : ∃ l, bothL M a b n = l := ⟨_, rfl⟩
      rw [hl] at hlen hmem hown HLeast
      have HLEN := Lib.hid hlen
      have HMEM := Lib.hid hmem
      clear hlen hmem hl hxn
      go_wp2_with fail
      go_loopw [11] (fun s11 wq => ∃ i : Nat, i ≤ n1 ∧ s11 = .int .i64 (i : Int) ∧ Hid (leastT M a b n = (l.drop i).find? fun c => l.all fun y => M c y) ∧ ∃ q, wq = wr.drewN q) (fun s11 _ => n1 - (intOf s11).toNat)
      case atStart => exact ⟨0, Nat.zero_le _, rfl, Lib.hid (by rw [HLeast.out]; rfl), 0, rfl⟩
      case round =>
        obtain ⟨i, hi, rfl, HI, q, rfl⟩ := hrel
        by_cases hlt2 : i < n1
        · obtain ⟨li, hli⟩ : ∃ li, l[i]? = some li := ⟨_, List.getElem?_eq_getElem (by rw [HLEN.out]; exact hlt2)⟩
          have hlin := HMEM.out li (List.mem_of_getElem? hli)
          obtain ⟨g, rfl, _, _⟩ := hown.some_ (by omega)
          have z0 : wr.cell? ⟨g, i, none⟩ = some (.int .i64 (li : Int)) := hown.cell (i64s_get hli)
          have HFD := Lib.hid (find_drop (q := fun c => l.all fun y => M c y) hli)
          clear hli
          go_wp2_with fail
          go_loopw [12, 13] (fun s12 s13 wq => ∃ k : Nat, k ≤ n1 ∧ s13 = .int .i64 (k : Int) ∧ s12 = .bool ((l.take k).all fun y => M li y) ∧ ∃ q, wq = wr.drewN q) (fun _ s13 _ => n1 - (intOf s13).toNat)
          case atStart => exact ⟨0, Nat.zero_le _, rfl, rfl, q, rfl⟩
          case round =>
            obtain ⟨k, hk, rfl, rfl, q3, rfl⟩ := hrel
            by_cases hlt3 : k < n1
            · obtain ⟨lk, hlk⟩ : ∃ lk, l[k]? = some lk := ⟨_, List.getElem?_eq_getElem (by rw [HLEN.out]; exact hlt3)⟩
              have hlkn := HMEM.out lk (List.mem_of_getElem? hlk)
              have hat := all_take (q := fun y => M li y) hlk
              have y1 : wr.cell? ⟨g, k, none⟩ = some (.int .i64 (lk : Int)) := hown.cell (i64s_get hlk)
              obtain ⟨ad, r1, e1, rfl, t1, t2⟩ := hTr.at_ hlin hlkn
              have u1 : (0 : Int) ≤ (li : Int) := by omega
              have u2 : ((li : Int)).toNat = li := by omega
              have u3 : (0 : Int) ≤ (lk : Int) := by omega
              have u4 : ((lk : Int)).toNat = lk := by omega
              have u5 : (li : Int) < (n : Int) := by omega
              have u6 : (lk : Int) < (n : Int) := by omega
              clear k0 hlk
              cases hb0 : (l.take k).all fun y => M li y
              · have HST : Hid ((l.take (k + 1)).all (fun y => M li y) = false) := Lib.hid (by rw [hat, hb0]; rfl)
                clear hat hb0
                go_wp2_with fail
                go_quiet (fail)
                go_wp2_with fail
                go_roundw
                case rel => exact ⟨k + 1, by omega, by go_num, by rw [HST.out], _, rfl⟩
                case measure => simp [intOf]; omega
              · have HST : Hid ((l.take (k + 1)).all (fun y => M li y) = F li lk) := Lib.hid (by rw [hat, hb0, HM.out]; rfl)
                clear hat hb0
                cases f1 : F li lk
                all_goals
                  rw [f1] at HST t2
                  clear f1
                  go_wp2_with fail
                  go_quiet (fail)
                  go_wp2_with fail
                  go_roundw
                  case rel => exact ⟨k + 1, by omega, by go_num, by rw [HST.out], _, rfl⟩
                  case measure => simp [intOf]; omega
            · have hkn : k = n1 := by omega
              have hall : (l.take k).all (fun y => M li y) = l.all fun y => M li y := by rw [List.take_of_length_le (by rw [HLEN.out]; omega)]
              rw [hall]
              have hfd := HFD.out
              clear hall hkn
              cases hb0 : l.all fun y => M li y
              · have HI2 : Hid (leastT M a b n = (l.drop (i + 1)).find? fun c => l.all fun y => M c y) := Lib.hid (by rw [HI.out, hfd, hb0]; rfl)
                clear hfd hb0
                go_wp2_with fail
                go_roundw
                case rel => exact ⟨i + 1, by omega, by go_num, HI2, q3, rfl⟩
                case measure => simp [intOf]; omega
              · have HI2 : Hid (leastT M a b n = some li) := Lib.hid (by rw [HI.out, hfd, hb0]; rfl)
                clear hfd hb0
                go_wp2_with fail
                go_ret
                exact ⟨by rw [HI2.out]; rfl, below_drewN' hbl _⟩
        · have HI2 : Hid (leastT M a b n = none) := Lib.hid (by rw [HI.out, List.drop_eq_nil_of_le (by rw [HLEN.out]; omega)]; rfl)
          go_wp2_with fail
          go_ret
          exact ⟨by rw [HI2.out]; rfl, below_drewN' hbl _⟩
end Go.Proofs.YtgdnphmannbpgaaGreatDoor
/-
  bowdlerref1: (*Order).least, downwards (printed by mkleast.py).
-/
namespace Go.Proofs.YtgdnphmannbpgaaGreatDoor
open Go.RowKit
set_option linter.unusedVariables false

set_option maxHeartbeats 8000000 in
set_option maxRecDepth 100000 in
theorem refLeastD_any (p n K : Nat) (A : Option Addr) (d : Nat) (B1 B2 : Value) (F : Nat → Nat → Bool) (a b : Nat) (w : World) (hB : Blk w p 85 #[.int .i64 (n : Int), .slice A n d, B1, B2]) (hT : TabB w K A n F) (hK : K ≤ w.heap.size) (ha : a < n) (hb : b < n) (hn : n ≤ 64) :
    Calls Tryz.prog 54 #[.pointer (some ⟨p, 0, none⟩), .int .i64 (a : Int), .int .i64 (b : Int), .bool false] w fun e w' => e = .returned (.int .i64 (optI (leastT (fun x y => F y x) a b n))) ∧ Below w.heap.size w w' := by
  have hpK : p < w.heap.size := hB.lt
  obtain ⟨M, hM⟩ : ∃ M : Nat → Nat → Bool, (fun x y => F y x) = M := ⟨_, rfl⟩
  have HM : Hid (∀ x y, M x y = F y x) := Lib.hid (fun x y => by rw [← hM])
  rw [hM]
  clear hM
  go_enter Tryz.func54, Tryz.ntmps54
  go_wp2_with fail
  go_loopw [9, 10] (fun s9 s10 wr => ∃ (x : Nat) (A1 : Option Addr) (n1 c1 : Nat), x ≤ n ∧ s10 = .int .i64 (x : Int) ∧ s9 = .slice A1 n1 c1 ∧ n1 ≤ x ∧ Own wr w.heap.size 3 1 A1 n1 c1 (i64s (bothL M a b x)) ∧ Below w.heap.size w wr) (fun _ s10 _ => n - (intOf s10).toNat)
  case atStart => exact ⟨0, none, 0, 0, Nat.zero_le _, rfl, rfl, Nat.le_refl _, Own.nil _ _ _ _, Below.refl _ _⟩
  case round =>
    obtain ⟨x, A1, n1, c1, hx, rfl, rfl, hn1, hown, hbl⟩ := hrel
    have hbs := hbl.size
    have k0 := (hB.below hbl hpK).cell 0
    have k1 : wr.cell? ⟨p, 0 + 1, none⟩ = some (.slice A n d) := (hB.below hbl hpK).cell 1
    have hTr := hT.below (hbl.mono hK)
    by_cases hlt : x < n
    · obtain ⟨ad, r1, e1, rfl, h1, h2⟩ := hTr.at_ hlt ha
      obtain ⟨ad2, r2, e2, hae, h3, h4⟩ := hTr.at_ hlt hb
      obtain rfl := Option.some.inj hae
      rw [h1] at h3
      injection h3 with h3
      injection h3 with h5 _ h6
      injection h5 with h5
      subst h5 h6
      have hst := bothL_succ M a b x
      rw [HM.out a x, HM.out b x] at hst
      cases f1 : F x a <;> cases f2 : F x b
      case' true.true =>
        rw [f1, f2] at hst
        rw [f1] at h2
        rw [f2] at h4
        have HST : Hid (bothL M a b (x + 1) = bothL M a b x ++ [x]) := Lib.hid hst
        clear hst f1 f2 hae
        go_wp2_with (at_builtin; refine wpList_app1 Tryz.elInts rfl (.tmp 75) (.tmp 77) rfl rfl (by exact hown.alloc _) rfl (Blk.new' _ _ _ _ (by simp)) rfl (by simp [Value.oneCell']) (by simp only [maxLen]; omega) (by omega) (by simp; omega) ?_
                     intro A3 c3 w3 hown3 ho3 hm3)
        go_roundw
        case rel =>
          refine ⟨x + 1, A3, n1 + 1, c3, by omega, by go_num, rfl, by omega, ?_, hbl.trans (ho3.of_alloc.below (fun a ha => (hown.lt ha).1) hbs)⟩
          rw [HST.out, i64s_snoc]
          exact hown3
        case measure => simp [intOf]; omega
      all_goals
        rw [f1, f2] at hst
        rw [f1] at h2
        rw [f2] at h4
        have HST : Hid (bothL M a b (x + 1) = bothL M a b x) := Lib.hid (by rw [hst]; simp)
        clear hst f1 f2 hae
        go_wp2_with fail
        go_roundw
        case rel => exact ⟨x + 1, A1, n1, c1, by omega, by go_num, rfl, by omega, by rw [HST.out]; exact hown, hbl⟩
        case measure => simp [intOf]; omega
    · have hxn : x = n := by omega
      rw [hxn] at hown
      have hlen : (bothL M a b n).length = n1 := by have := hown.len; unfold i64s at this; simpa using this
      have hmem : ∀ y ∈ bothL M a b n, y < n := fun y hy => (bothL_mem.1 hy).1
      have HLeast : Hid (leastT M a b n = (bothL M a b n).find? fun c => (bothL M a b n).all fun y => M c y) := Lib.hid rfl
      obtain ⟨l, hl⟩ : ∃ l, bothL M a b n = l := ⟨_, rfl⟩
      rw [hl] at hlen hmem hown HLeast
      have HLEN := Lib.hid hlen
      have HMEM := Lib.hid hmem
      clear hlen hmem hl hxn
      go_wp2_with fail
      go_loopw [11] (fun s11 wq => ∃ i : Nat, i ≤ n1 ∧ s11 = .int .i64 (i : Int) ∧ Hid (leastT M a b n = (l.drop i).find? fun c => l.all fun y => M c y) ∧ ∃ q, wq = wr.drewN q) (fun s11 _ => n1 - (intOf s11).toNat)
      case atStart => exact ⟨0, Nat.zero_le _, rfl, Lib.hid (by rw [HLeast.out]; rfl), 0, rfl⟩
      case round =>
        obtain ⟨i, hi, rfl, HI, q, rfl⟩ := hrel
        by_cases hlt2 : i < n1
        · obtain ⟨li, hli⟩ : ∃ li, l[i]? = some li := ⟨_, List.getElem?_eq_getElem (by rw [HLEN.out]; exact hlt2)⟩
          have hlin := HMEM.out li (List.mem_of_getElem? hli)
          obtain ⟨g, rfl, _, _⟩ := hown.some_ (by omega)
          have z0 : wr.cell? ⟨g, i, none⟩ = some (.int .i64 (li : Int)) := hown.cell (i64s_get hli)
          have HFD := Lib.hid (find_drop (q := fun c => l.all fun y => M c y) hli)
          clear hli
          go_wp2_with fail
          go_loopw [12, 13] (fun s12 s13 wq => ∃ k : Nat, k ≤ n1 ∧ s13 = .int .i64 (k : Int) ∧ s12 = .bool ((l.take k).all fun y => M li y) ∧ ∃ q, wq = wr.drewN q) (fun _ s13 _ => n1 - (intOf s13).toNat)
          case atStart => exact ⟨0, Nat.zero_le _, rfl, rfl, q, rfl⟩
          case round =>
            obtain ⟨k, hk, rfl, rfl, q3, rfl⟩ := hrel
            by_cases hlt3 : k < n1
            · obtain ⟨lk, hlk⟩ : ∃ lk, l[k]? = some lk := ⟨_, List.getElem?_eq_getElem (by rw [HLEN.out]; exact hlt3)⟩
              have hlkn := HMEM.out lk (List.mem_of_getElem? hlk)
              have hat := all_take (q := fun y => M li y) hlk
              have y1 : wr.cell? ⟨g, k, none⟩ = some (.int .i64 (lk : Int)) := hown.cell (i64s_get hlk)
              obtain ⟨ad, r1, e1, rfl, t1, t2⟩ := hTr.at_ hlkn hlin
              have u1 : (0 : Int) ≤ (li : Int) := by omega
              have u2 : ((li : Int)).toNat = li := by omega
              have u3 : (0 : Int) ≤ (lk : Int) := by omega
              have u4 : ((lk : Int)).toNat = lk := by omega
              have u5 : (li : Int) < (n : Int) := by omega
              have u6 : (lk : Int) < (n : Int) := by omega
              clear k0 hlk
              cases hb0 : (l.take k).all fun y => M li y
              · have HST : Hid ((l.take (k + 1)).all (fun y => M li y) = false) := Lib.hid (by rw [hat, hb0]; rfl)
                clear hat hb0
                go_wp2_with fail
                go_quiet (fail)
                go_wp2_with fail
                go_roundw
                case rel => exact ⟨k + 1, by omega, by go_num, by rw [HST.out], _, rfl⟩
                case measure => simp [intOf]; omega
              · have HST : Hid ((l.take (k + 1)).all (fun y => M li y) = F lk li) := Lib.hid (by rw [hat, hb0, HM.out]; rfl)
                clear hat hb0
                cases f1 : F lk li
                all_goals
                  rw [f1] at HST t2
                  clear f1
                  go_wp2_with fail
                  go_quiet (fail)
                  go_wp2_with fail
                  go_roundw
                  case rel => exact ⟨k + 1, by omega, by go_num, by rw [HST.out], _, rfl⟩
                  case measure => simp [intOf]; omega
            · have hkn : k = n1 := by omega
              have hall : (l.take k).all (fun y => M li y) = l.all fun y => M li y := by rw [List.take_of_length_le (by rw [HLEN.out]; omega)]
              rw [hall]
              have hfd := HFD.out
              clear hall hkn
              cases hb0 : l.all fun y => M li y
              · have HI2 : Hid (leastT M a b n = (l.drop (i + 1)).find? fun c => l.all fun y => M c y) := Lib.hid (by rw [HI.out, hfd, hb0]; rfl)
                clear hfd hb0
                go_wp2_with fail
                go_roundw
                case rel => exact ⟨i + 1, by omega, by go_num, HI2, q3, rfl⟩
                case measure => simp [intOf]; omega
              · have HI2 : Hid (leastT M a b n = some li) := Lib.hid (by rw [HI.out, hfd, hb0]; rfl)
                clear hfd hb0
                go_wp2_with fail
                go_ret
                exact ⟨by rw [HI2.out]; rfl, below_drewN' hbl _⟩
        · have HI2 : Hid (leastT M a b n = none) := Lib.hid (by rw [HI.out, List.drop_eq_nil_of_le (by rw [HLEN.out]; omega)]; rfl)
          go_wp2_with fail
          go_ret
          exact ⟨by rw [HI2.out]; rfl, below_drewN' hbl _⟩
end Go.Proofs.YtgdnphmannbpgaaGreatDoor
/-
  The document's order: a row more of each matrix; the first rows; what a made row is.
-/
namespace Go.Proofs.YtgdnphmannbpgaaGreatDoor
open Go.RowKit
set_option linter.unusedVariables false

theorem Tryz.infoBools : (Tryz.prog.info? 86).map (fun i => (i.zero, i.size, i.bytes)) = some (some (.slice none 0 0), 1, 24) := by kernel_rfl
theorem Tryz.infoBool : (Tryz.prog.info? 4).map (fun i => (i.zero, i.size, i.bytes)) = some (some (.bool false), 1, 1) := by kernel_rfl
theorem Tryz.elBoolRows : Elem Tryz.prog 82 86 1 24 := Elem.mk' Tryz.underlying82 Tryz.infoBools rfl (by decide)
theorem Tryz.elIntRows : Elem Tryz.prog 83 81 1 24 := Elem.mk' Tryz.underlying83 Tryz.infoInts rfl (by decide)
theorem mk_bools (n : Nat) (h : n ≤ 64) (w : World) : (Instr.makeSlice 86 (.int .i64 (n : Int)) (.int .i64 (n : Int))).run Tryz.prog w = .ok (.slice (some ⟨w.heap.size, 0, none⟩) n n) (w.alloc (.cells (Array.replicate n (.bool false)) 4)) := by
  obtain ⟨i, hi, hz, hs, hb⟩ := info_parts Tryz.infoBool
  have := run_makeSlice w 86 4 i (.bool false) Tryz.underlying86 hi hz .i64 .i64 (n : Int) (n : Int) (by omega) (Int.le_refl _) (by rw [hs]; simp; omega) (by rw [hb]; omega) (by omega)
  rw [this, Int.toNat_natCast, hs, Nat.mul_one, show (Value.bool false).cells = #[.bool false] from rfl, made_one]
theorem mk_ints (n : Nat) (h : n ≤ 64) (w : World) : (Instr.makeSlice 81 (.int .i64 (n : Int)) (.int .i64 (n : Int))).run Tryz.prog w = .ok (.slice (some ⟨w.heap.size, 0, none⟩) n n) (w.alloc (.cells (Array.replicate n (.int .i64 0)) 3)) := by
  obtain ⟨i, hi, hz, hs, hb⟩ := info_parts Tryz.infoInt
  have := run_makeSlice w 81 3 i (.int .i64 0) Tryz.underlying81 hi hz .i64 .i64 (n : Int) (n : Int) (by omega) (Int.le_refl _) (by rw [hs]; simp; omega) (by rw [hb]; omega) (by omega)
  rw [this, Int.toNat_natCast, hs, Nat.mul_one, show (Value.int .i64 0).cells = #[.int .i64 0] from rfl, made_one]
/-- a store into a block that is no part of it -/
theorem MatB.setP {w : World} {base rt t m c n p ty i : Nat} {A : Option Addr} {g : Nat → Nat} {F : Nat → Nat → Value} {cs : Array Value} (h : MatB w base rt t A m c n g F) (hB : Blk w p ty cs) (h1 : rt ≠ ty) (h2 : t ≠ ty) (v : Value) : MatB (w.setCell ⟨p, i, none⟩ v) base rt t A m c n g F :=
  h.only (only_setCell w p i v) (fun x y hx hy => by injection hy with hy; rw [← hy]; exact h.head.blk_ne hB h1 x hx) (fun a ha b hb => by injection hb with hb; rw [← hb]; exact ((h.row a ha).ne_ hB h2).symm)
section
variable {w w3 Q : World} {base p n mL mJ mM : Nat} {AL AJ AM : Option Addr} {cL cJ cM : Nat} {gL gJ gM : Nat → Nat} {FL : Nat → Nat → Bool} {FJ FM : Nat → Nat → Int}
theorem OrdS.pcell (h : OrdS w base p n mL mJ mM AL AJ AM cL cJ cM gL gJ gM FL FJ FM) {A : Option Addr} {base' e size m c : Nat} {xs : List Value} (hO : Own w base' e size A m c xs) (hne : e ≠ 85) (ho : Only w w3 A) :
    Blk w3 p 85 #[.int .i64 (n : Int), .slice AL mL cL, .slice AJ mJ cJ, .slice AM mM cM] := h.blk.only ho (hO.blk_ne h.blk hne)
theorem OrdS.pushL (h : OrdS w base p n mL mJ mM AL AJ AM cL cJ cM gL gJ gM FL FJ FM) {o : Obj} {A' : Option Addr} {c' : Nat}
    (hQ : Q = (w.alloc (.cells (Array.replicate n (.bool false)) 4)).alloc o) (ho : Only Q w3 AL) (hO : Own w3 base 86 1 A' (mL + 1) c' (((List.range mL).map fun a => Value.slice (some ⟨gL a, 0, none⟩) n n) ++ [.slice (some ⟨w.heap.size, 0, none⟩) n n])) :
    OrdS (w3.setCell ⟨p, 1, none⟩ (.slice A' (mL + 1) c')) base p n (mL + 1) mJ mM A' AJ AM c' cJ cM (fun a => if a = mL then w.heap.size else gL a) gJ gM (fun a b => if a = mL then false else FL a b) FJ FM ∧ Below base w (w3.setCell ⟨p, 1, none⟩ (.slice A' (mL + 1) c')) := by
  have hq := (h.alloc (.cells (Array.replicate n (.bool false)) 4)).alloc o
  have hz := h.size
  have hblk : Blk Q w.heap.size 4 (rowC n fun _ => .bool false) := by rw [hQ, ← rowC_rep]; exact (Blk.new _ _ _).alloc o
  rw [← hQ] at hq
  have hL : MatB w3 base 86 4 A' (mL + 1) c' n (fun a => if a = mL then w.heap.size else gL a) (fun a b => if a = mL then .bool false else .bool (FL a b)) :=
    hq.L.push hblk hz (fun a ha => by have := (h.L.row a ha).lt; omega) (fun a ha => by have := (h.L.head.lt ha).2; omega) ho hO
  have hJ := hq.J.only ho (hq.J.head.sep_ne hq.L.head (by decide)) (fun a ha b hb => hq.L.head.blk_ne (hq.J.row a ha) (by decide) b hb)
  have hM := hq.M.only ho (hq.M.head.sep_ne hq.L.head (by decide)) (fun a ha b hb => hq.L.head.blk_ne (hq.M.row a ha) (by decide) b hb)
  have hP := hq.blk.only ho (hq.L.head.blk_ne hq.blk (by decide))
  have hz3 := ho.size
  have hzQ : w.heap.size ≤ Q.heap.size := by rw [hQ]; simp; omega
  refine ⟨⟨by simp [World.setCell]; omega, h.pb, by have := hP.set_ 1 (.slice A' (mL + 1) c'); simpa using this, (hL.setP hP (by decide) (by decide) _).congr fun a b _ _ => by split <;> rfl, hJ.setP hP (by decide) (by decide) _, hM.setP hP (by decide) (by decide) _, h.jm, h.hd⟩, ?_⟩
  have b1 : Below base w Q := by rw [hQ]; exact ((Below.refl _ _).alloc hz _).alloc (by simp; omega) _
  exact (b1.trans (ho.below (fun a ha => (hq.L.head.lt ha).1) (by omega))).setCell (p := ⟨p, 1, none⟩) h.pb _
theorem OrdS.pushJ (h : OrdS w base p n mL mJ mM AL AJ AM cL cJ cM gL gJ gM FL FJ FM) {o : Obj} {A' : Option Addr} {c' : Nat}
    (hQ : Q = (w.alloc (.cells (Array.replicate n (.int .i64 0)) 3)).alloc o) (ho : Only Q w3 AJ) (hmv : Moved Q AJ A') (hO : Own w3 base 81 1 A' (mJ + 1) c' (((List.range mJ).map fun a => Value.slice (some ⟨gJ a, 0, none⟩) n n) ++ [.slice (some ⟨w.heap.size, 0, none⟩) n n])) :
    OrdS (w3.setCell ⟨p, 2, none⟩ (.slice A' (mJ + 1) c')) base p n mL (mJ + 1) mM AL A' AM cL c' cM gL (fun a => if a = mJ then w.heap.size else gJ a) gM FL (fun a b => if a = mJ then 0 else FJ a b) FM ∧ Below base w (w3.setCell ⟨p, 2, none⟩ (.slice A' (mJ + 1) c')) := by
  have hq := (h.alloc (.cells (Array.replicate n (.int .i64 0)) 3)).alloc o
  have hz := h.size
  have hblk : Blk Q w.heap.size 3 (rowC n fun _ => .int .i64 0) := by rw [hQ, ← rowC_rep]; exact (Blk.new _ _ _).alloc o
  rw [← hQ] at hq
  have hzQ : w.heap.size ≤ Q.heap.size := by rw [hQ]; simp; omega
  have hJ : MatB w3 base 81 3 A' (mJ + 1) c' n (fun a => if a = mJ then w.heap.size else gJ a) (fun a b => if a = mJ then .int .i64 0 else .int .i64 (FJ a b)) :=
    hq.J.push hblk hz (fun a ha => by have := (h.J.row a ha).lt; omega) (fun a ha => by have := (h.J.head.lt ha).2; omega) ho hO
  have hL := hq.L.only ho (hq.L.head.sep_ne hq.J.head (by decide)) (fun a ha b hb => hq.J.head.blk_ne (hq.L.row a ha) (by decide) b hb)
  have hM := hq.M.only ho (fun a b ha hb => (h.hd.symm a b ha hb)) (fun a ha b hb => hq.J.head.blk_ne (hq.M.row a ha) (by decide) b hb)
  have hP := hq.blk.only ho (hq.J.head.blk_ne hq.blk (by decide))
  have hz3 := ho.size
  refine ⟨⟨by simp [World.setCell]; omega, h.pb, by have := hP.set_ 2 (.slice A' (mJ + 1) c'); simpa using this, hL.setP hP (by decide) (by decide) _, (hJ.setP hP (by decide) (by decide) _).congr fun a b _ _ => by split <;> rfl, hM.setP hP (by decide) (by decide) _, fun a b ha hb => ?_, ?_⟩, ?_⟩
  · by_cases e : a = mJ
    · simp only [if_pos e]
      have := (h.M.row b hb).lt
      omega
    · simp only [if_neg e]
      exact h.jm a b (by omega) hb
  · exact Sep.moved h.hd hmv (fun b hb => (h.M.head.lt hb).2) hzQ
  have b1 : Below base w Q := by rw [hQ]; exact ((Below.refl _ _).alloc hz _).alloc (by simp; omega) _
  exact (b1.trans (ho.below (fun a ha => (hq.J.head.lt ha).1) (by omega))).setCell (p := ⟨p, 2, none⟩) h.pb _
theorem OrdS.pushM (h : OrdS w base p n mL mJ mM AL AJ AM cL cJ cM gL gJ gM FL FJ FM) {o : Obj} {A' : Option Addr} {c' : Nat}
    (hQ : Q = (w.alloc (.cells (Array.replicate n (.int .i64 0)) 3)).alloc o) (ho : Only Q w3 AM) (hmv : Moved Q AM A') (hO : Own w3 base 81 1 A' (mM + 1) c' (((List.range mM).map fun a => Value.slice (some ⟨gM a, 0, none⟩) n n) ++ [.slice (some ⟨w.heap.size, 0, none⟩) n n])) :
    OrdS (w3.setCell ⟨p, 3, none⟩ (.slice A' (mM + 1) c')) base p n mL mJ (mM + 1) AL AJ A' cL cJ c' gL gJ (fun a => if a = mM then w.heap.size else gM a) FL FJ (fun a b => if a = mM then 0 else FM a b) ∧ Below base w (w3.setCell ⟨p, 3, none⟩ (.slice A' (mM + 1) c')) := by
  have hq := (h.alloc (.cells (Array.replicate n (.int .i64 0)) 3)).alloc o
  have hz := h.size
  have hblk : Blk Q w.heap.size 3 (rowC n fun _ => .int .i64 0) := by rw [hQ, ← rowC_rep]; exact (Blk.new _ _ _).alloc o
  rw [← hQ] at hq
  have hzQ : w.heap.size ≤ Q.heap.size := by rw [hQ]; simp; omega
  have hM : MatB w3 base 81 3 A' (mM + 1) c' n (fun a => if a = mM then w.heap.size else gM a) (fun a b => if a = mM then .int .i64 0 else .int .i64 (FM a b)) :=
    hq.M.push hblk hz (fun a ha => by have := (h.M.row a ha).lt; omega) (fun a ha => by have := (h.M.head.lt ha).2; omega) ho hO
  have hL := hq.L.only ho (hq.L.head.sep_ne hq.M.head (by decide)) (fun a ha b hb => hq.M.head.blk_ne (hq.L.row a ha) (by decide) b hb)
  have hJ := hq.J.only ho (fun a b ha hb => (h.hd a b ha hb)) (fun a ha b hb => hq.M.head.blk_ne (hq.J.row a ha) (by decide) b hb)
  have hP := hq.blk.only ho (hq.M.head.blk_ne hq.blk (by decide))
  have hz3 := ho.size
  refine ⟨⟨by simp [World.setCell]; omega, h.pb, by have := hP.set_ 3 (.slice A' (mM + 1) c'); simpa using this, hL.setP hP (by decide) (by decide) _, hJ.setP hP (by decide) (by decide) _, (hM.setP hP (by decide) (by decide) _).congr fun a b _ _ => by split <;> rfl, fun a b ha hb => ?_, ?_⟩, ?_⟩
  · by_cases e : b = mM
    · simp only [if_pos e]
      have := (h.J.row a ha).lt
      omega
    · simp only [if_neg e]
      exact h.jm a b ha (by omega)
  · exact (Sep.moved h.hd.symm hmv (fun b hb => (h.J.head.lt hb).2) hzQ).symm
  have b1 : Below base w Q := by rw [hQ]; exact ((Below.refl _ _).alloc hz _).alloc (by simp; omega) _
  exact (b1.trans (ho.below (fun a ha => (hq.M.head.lt ha).1) (by omega))).setCell (p := ⟨p, 3, none⟩) h.pb _
end
theorem OrdS.new (w : World) (n : Nat) : OrdS (w.alloc (.cells #[.int .i64 (n : Int), .slice none 0 0, .slice none 0 0, .slice none 0 0] 85)) w.heap.size w.heap.size n 0 0 0 none none none 0 0 0 (fun _ => 0) (fun _ => 0) (fun _ => 0) (fun _ _ => false) (fun _ _ => 0) (fun _ _ => 0) :=
  ⟨by simp, Nat.le_refl _, Blk.new _ _ _, ⟨Own.nil _ _ _ _, fun a ha => by omega, fun a ha => by omega, fun a b ha => by omega, by decide⟩, ⟨Own.nil _ _ _ _, fun a ha => by omega, fun a ha => by omega, fun a b ha => by omega, by decide⟩, ⟨Own.nil _ _ _ _, fun a ha => by omega, fun a ha => by omega, fun a b ha => by omega, by decide⟩, fun a b ha => by omega, Sep.none_l⟩
theorem edgesU_snoc (l : List Nat) (ps : List (Int × Int)) (p : Int × Int) : edgesU l (ps ++ [p]) = edgeU (edgesU l ps) p := by
  induction ps generalizing l with
  | nil => rfl
  | cons q qs ih => exact ih _
end Go.Proofs.YtgdnphmannbpgaaGreatDoor
