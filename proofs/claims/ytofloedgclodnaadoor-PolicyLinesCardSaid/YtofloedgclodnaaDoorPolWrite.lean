/-
  policy.Write: its contract.
-/
import Derived.Test.YtofloedgclodnaaDoorPolAdd2
import Derived.Deep.RegionHeld3
namespace Go.Proofs.YtofloedgclodnaaDoor
open Go.RowKit

def wlineA (x : ByteArray) : ByteArray := ⟨#[108, 101, 118, 101, 108, 32]⟩ ++ x
def wlineB (xs : List ByteArray) (p : Int × Int) : ByteArray := xs.getD p.1.toNat ⟨#[]⟩ ++ ⟨#[32, 60, 32]⟩ ++ xs.getD p.2.toNat ⟨#[]⟩
def wlines (xs : List ByteArray) (ps : List (Int × Int)) : List ByteArray := xs.map wlineA ++ ps.map (wlineB xs)
/-- a policy as a text -/
def writeT (xs : List ByteArray) (ps : List (Int × Int)) : ByteArray := if rightT xs ps then S (joinT ((wlines xs ps).map L)) else ⟨#[]⟩

theorem nms_names (xs : List ByteArray) : ∀ (l : List ByteArray) (k : Nat), nmsT xs k l = true → ∀ x ∈ l, nameT (L x) = true
  | [], _, _, x, hx => by cases hx
  | y :: t, k, h, x, hx => by
    rw [nmsT, Bool.and_eq_true, Bool.and_eq_true] at h
    rcases List.mem_cons.1 hx with e | hx
    · rw [e]; exact h.1.1
    · exact nms_names xs t (k + 1) h.2 x hx
theorem name_le {x : ByteArray} (h : nameT (L x) = true) : x.size ≤ 20 := by
  unfold nameT at h
  rw [Bool.and_eq_true, Bool.and_eq_true] at h
  have := of_decide_eq_true h.1.2
  simpa using this
theorem right_parts {xs : List ByteArray} {ps : List (Int × Int)} (h : rightT xs ps = true) :
    1 ≤ xs.length ∧ xs.length ≤ 64 ∧ (∀ x ∈ xs, nameT (L x) = true) ∧ nmsT xs 0 xs = true ∧ ∀ p ∈ ps, ∃ i j : Nat, p = ((i : Int), (j : Int)) ∧ i < xs.length ∧ j < xs.length ∧ i ≠ j := by
  unfold rightT at h
  simp only [Bool.and_eq_true, decide_eq_true_eq, Bool.not_eq_true', List.any_eq_false] at h
  obtain ⟨⟨⟨h1, h2⟩, h3⟩, h4⟩ := h
  refine ⟨h1, h2, nms_names xs xs 0 h3, h3, fun p hp => ?_⟩
  have := h4 p hp
  unfold badP at this
  simp at this
  obtain ⟨⟨a, b⟩, c⟩ := this
  exact ⟨p.1.toNat, p.2.toNat, by ext <;> simp <;> omega, by omega, by omega, by omega⟩
theorem getD_size {xs : List ByteArray} (h : ∀ x ∈ xs, nameT (L x) = true) (i : Nat) : (xs.getD i ⟨#[]⟩).size ≤ 20 := by
  rw [List.getD_eq_getElem?_getD]
  rcases hi : xs[i]? with _ | x
  · simp [ByteArray.size]
  · simpa using name_le (h x (List.mem_of_getElem? hi))
theorem joinT_bound (l : List (List UInt8)) (m : Nat) (h : ∀ x ∈ l, x.length ≤ m) : (joinT l).length ≤ (m + 1) * l.length := by
  induction l with
  | nil => simp [joinT]
  | cons x t ih =>
    have := ih (fun y hy => h y (List.mem_cons_of_mem _ hy))
    have := h x (by simp)
    have e : (joinT (x :: t)).length = x.length + 1 + (joinT t).length := by simp [joinT]; omega
    rw [e, List.length_cons, Nat.mul_add]; omega

set_option maxHeartbeats 2000000 in
set_option maxRecDepth 100000 in
theorem write_any (A B : Option Addr) (n c n2 c2 K : Nat) (xs : List ByteArray) (ps : List (Int × Int)) (w : World) (hr : Reads w K 1 A n (txCells xs)) (hr2 : Reads w K 2 B n2 (prCells ps))
    (hK : K ≤ w.heap.size) (hn : n ≤ 9223372036854775807) (hn2 : n2 ≤ 1048576) (hsz : ∀ x ∈ xs, x.size ≤ 9223372036854775807) :
    Calls Tryd.prog 17 #[.agg #[.slice A n c, .slice B n2 c2]] w fun e w' => e = .returned (.tuple #[.string (writeT xs ps), .bool (rightT xs ps)]) ∧ Below w.heap.size w w' := by
  have hlen : xs.length = n := by have := hr.1; simpa using this
  have hlen2 : ps.length = n2 := by have := hr2.1; rw [prCells_length] at this; omega
  have HL := Lib.hid hlen
  have HL2 := Lib.hid hlen2
  clear hlen hlen2
  have bA : Below w.heap.size w (w.alloc (.cells #[.slice A n c, .slice B n2 c2] 25)) := (Below.refl _ _).alloc (Nat.le_refl _) _
  have B0 : Blk (w.alloc (.cells #[.slice A n c, .slice B n2 c2] 25)) w.heap.size 25 #[.slice A n c, .slice B n2 c2] := Blk.new _ _ _
  have hR : ∀ w1, Below w.heap.size w w1 → Calls Tryd.prog 15 #[.agg #[.slice A n c, .slice B n2 c2]] w1 fun e w' => e = .returned (.bool (rightT xs ps)) ∧ Below w1.heap.size w1 w' := fun w1 hb =>
    right_any A B n c n2 c2 K xs ps w1 (hr.below (hb.mono hK)) (hr2.below (hb.mono hK)) (by have := hb.size; omega) hn (by omega) hsz
  unfold writeT
  have HRt := Lib.hid hR
  clear hR
  cases hrt : rightT xs ps
  · rw [hrt] at HRt
    go_enter Tryd.func17, Tryd.ntmps17
    go_wp2_with fail
    refine (HRt.out _ bA).mono ?_
    rintro e w1 ⟨rfl, b1⟩
    go_wp2_with fail
    go_ret2
    exact ⟨rfl, bA.trans (b1.mono (by simp))⟩
  · rw [hrt] at HRt
    rw [if_pos rfl]
    obtain ⟨r1, r2, r3, r4, r5⟩ := right_parts hrt
    have hbound : (joinT ((wlines xs ps).map L)).length ≤ 140737488355328 := by
      have := joinT_bound ((wlines xs ps).map L) 43 (fun y hy => by
        obtain ⟨z, hz, rfl⟩ := List.mem_map.1 hy
        rw [length_L]
        rcases List.mem_append.1 hz with hz | hz
        · obtain ⟨x, hx, rfl⟩ := List.mem_map.1 hz
          have := name_le (r3 x hx)
          unfold wlineA
          rw [ByteArray.size_append]
          have : (⟨#[108, 101, 118, 101, 108, 32]⟩ : ByteArray).size = 6 := rfl
          omega
        · obtain ⟨p, hp, rfl⟩ := List.mem_map.1 hz
          have h1 := getD_size r3 p.1.toNat
          have h2 := getD_size r3 p.2.toNat
          unfold wlineB
          rw [ByteArray.size_append, ByteArray.size_append]
          have : (⟨#[32, 60, 32]⟩ : ByteArray).size = 3 := rfl
          omega)
      have hl : (wlines xs ps).length = xs.length + ps.length := by simp [wlines]
      rw [List.length_map, hl, HL2.out] at this
      omega
    have HBD := Lib.hid hbound
    clear hbound
    rw [HL.out] at r1 r2
    go_enter Tryd.func17, Tryd.ntmps17
    go_wp2_with fail
    refine (HRt.out _ bA).mono ?_
    rintro e w1 ⟨rfl, b1⟩
    replace B0 := B0.below b1 (by simp)
    have bb1 := bA.trans (b1.mono (by simp))
    have hs1 := b1.size
    simp at hs1
    clear b1 bA
    have d0 : w1.cell? ⟨w.heap.size, 0, none⟩ = some (.slice A n c) := B0.cell 0
    have d1 : w1.cell? ⟨w.heap.size, 0 + 1, none⟩ = some (.slice B n2 c2) := B0.cell 1
    go_wp2_with fail
    go_loopw [4, 15] (fun out i wr => ∃ (k : Nat) (A1 : Option Addr) (c1 : Nat), k ≤ n ∧ i = .int .i64 k ∧ out = .slice A1 k c1 ∧ Own wr w1.heap.size 9 1 A1 k c1 (txCells ((xs.take k).map wlineA)) ∧ Below w1.heap.size w1 wr)
      (fun _ i _ => n - (intOf i).toNat)
    case atStart => exact ⟨0, none, 0, Nat.zero_le _, rfl, rfl, Own.nil _ _ _ _, Below.refl _ _⟩
    case round =>
      obtain ⟨k, A1, c1, hk, rfl, rfl, hown, hb⟩ := hrel
      have hbs := hb.size
      by_cases hlt : k < n
      · obtain ⟨ad, u, rfl, _, hx0, hc⟩ := (hr.below ((bb1.trans (hb.mono (by omega))).mono hK)).at_ hlt
        obtain ⟨x, hx, rfl⟩ : ∃ x, xs[k]? = some x ∧ Value.string x = u := by simpa using hx0
        have hxs : x.size ≤ 20 := name_le (r3 x (List.mem_of_getElem? hx))
        have HK : Hid ((xs.take (k + 1)).map wlineA = (xs.take k).map wlineA ++ [⟨#[108, 101, 118, 101, 108, 32]⟩ ++ x]) := Lib.hid (by
          rw [List.take_add_one, hx]; simp [wlineA])
        clear hx hx0
        generalize (xs.take k).map wlineA = kl at *
        go_wp2_with (at_builtin; refine wpList_app1 Tryd.elTexts rfl (.tmp 19) (.tmp 22) rfl rfl (by exact hown.alloc _) rfl (Blk.new' _ _ _ _ (by simp)) rfl (by simp [Value.oneCell']) (by simp only [maxLen]; omega) (by omega) (by simp; omega) ?_
                     intro A1' c1' w2 hown1 ho1 hm1)
        go_roundw
        case rel =>
          refine ⟨k + 1, A1', c1', by omega, by go_num, rfl, ?_, hb.trans (ho1.of_alloc.below (fun a ha => (hown.lt ha).1) hbs)⟩
          rw [HK.out]
          simpa [txCells] using hown1
        case measure => simp [intOf]; omega
      · have hkn : k = n := by omega
        subst hkn
        rw [List.take_of_length_le (by rw [HL.out]; omega)] at hown
        have e0 : wr.cell? ⟨w.heap.size, 0, none⟩ = some (.slice A k c) := (B0.below hb (by omega)).cell 0
        have e1 : wr.cell? ⟨w.heap.size, 0 + 1, none⟩ = some (.slice B n2 c2) := (B0.below hb (by omega)).cell 1
        go_wp2_with fail
        go_loopw [4, 28] (fun out i wr2 => ∃ (j : Nat) (A2 : Option Addr) (c3 : Nat), j ≤ n2 ∧ i = .int .i64 j ∧ out = .slice A2 (k + j) c3 ∧ Own wr2 w1.heap.size 9 1 A2 (k + j) c3 (txCells (xs.map wlineA ++ (ps.take j).map (wlineB xs))) ∧ Below w1.heap.size w1 wr2)
          (fun _ i _ => n2 - (intOf i).toNat)
        case atStart => exact ⟨0, A1, c1, Nat.zero_le _, rfl, rfl, by simpa using hown, hb⟩
        case round =>
          clear hown hb e0 e1
          obtain ⟨j, A2, c3, hj, rfl, rfl, hown, hb⟩ := hrel
          rename_i wq
          have hbs2 := hb.size
          by_cases hlt2 : j < n2
          · have hjl : j < ps.length := by rw [HL2.out]; exact hlt2
            have hcat := prCells_at ps j hjl
            obtain ⟨p1, p2, hp, hp1, hp2, -⟩ := r5 (ps[j]) (List.getElem_mem hjl)
            have HK : Hid (xs.map wlineA ++ (ps.take (j + 1)).map (wlineB xs) = (xs.map wlineA ++ (ps.take j).map (wlineB xs)) ++ [xs.getD p1 ⟨#[]⟩ ++ ⟨#[32, 60, 32]⟩ ++ xs.getD p2 ⟨#[]⟩]) := Lib.hid (by
              rw [List.take_add_one, List.getElem?_eq_getElem hjl, hp]; simp [wlineB])
            rw [hp] at hcat
            have hbq := (bb1.trans (hb.mono (by omega))).mono hK
            obtain ⟨ad, rfl, hadb, hcell⟩ := (hr.below hbq).2 (by omega)
            have n1c := hcell p1 (.string (xs.getD p1 ⟨#[]⟩)) (by simp [List.getD_eq_getElem?_getD, hp1])
            have n2c := hcell p2 (.string (xs.getD p2 ⟨#[]⟩)) (by simp [List.getD_eq_getElem?_getD, hp2])
            have z1 := getD_size r3 p1
            have z2 := getD_size r3 p2
            rw [HL.out] at hp1 hp2
            obtain ⟨ad2, rfl, _, hc0, hc1⟩ := (hr2.below hbq).elem hlt2
            have q0 := hc0 _ hcat.1
            have q1 := hc1 1 _ (by decide) hcat.2
            clear hc0 hc1 hcat hcell hp
            generalize xs.getD p1 ⟨#[]⟩ = x1 at *
            generalize xs.getD p2 ⟨#[]⟩ = x2 at *
            generalize xs.map wlineA ++ (ps.take j).map (wlineB xs) = kl at *
            go_upto_region 12 with fail
            have Bp : Blk (wr.alloc (.cells #[.int .i64 p1, .int .i64 p2] 63)) wr.heap.size 63 #[.int .i64 p1, .int .i64 p2] := Blk.new _ _ _
            have hown2 := hown.alloc (.cells #[.int .i64 p1, .int .i64 p2] 63)
            have hb2 : Below w1.heap.size w1 (wr.alloc (.cells #[.int .i64 p1, .int .i64 p2] 63)) := hb.alloc hbs2 _
            have hadw : ad.block < wr.heap.size := by omega
            have m1 : (wr.alloc (.cells #[.int .i64 p1, .int .i64 p2] 63)).cell? (ad.add p1) = some (.string x1) := (World.cell?_alloc_lt wr _ _ (by rw [block_of_add]; exact hadw)).trans n1c
            have m2 : (wr.alloc (.cells #[.int .i64 p1, .int .i64 p2] 63)).cell? (ad.add p2) = some (.string x2) := (World.cell?_alloc_lt wr _ _ (by rw [block_of_add]; exact hadw)).trans n2c
            have B2 := B0.below hb2 (by omega)
            have hsW : (wr.alloc (.cells #[.int .i64 p1, .int .i64 p2] 63)).heap.size = wr.heap.size + 1 := by simp
            clear n1c n2c q0 q1 hown hb
            generalize wr.alloc (.cells #[.int .i64 p1, .int .i64 p2] 63) = W at *
            have y0 : W.cell? ⟨wr.heap.size, 0, none⟩ = some (.int .i64 p1) := Bp.cell 0
            have y1 : W.cell? ⟨wr.heap.size, 1, none⟩ = some (.int .i64 p2) := Bp.cell 1
            have v0 : W.cell? ⟨w.heap.size, 0, none⟩ = some (.slice (some ad) k c) := B2.cell 0
            have hsW2 : wr.heap.size + 1 ≤ W.heap.size := by omega
            have i1 : (0 : Int) ≤ (p1 : Int) := by omega
            have i2 : ((p1 : Int)).toNat = p1 := by omega
            have i3 : (p1 : Int) < (k : Int) := by omega
            have j1 : (0 : Int) ≤ (p2 : Int) := by omega
            have j2 : ((p2 : Int)).toNat = p2 := by omega
            have j3 : (p2 : Int) < (k : Int) := by omega
            have s1 : ¬ 9223372036854775807 < x1.size + 3 := by omega
            have s2 : ¬ 9223372036854775807 < x1.size + 3 + x2.size := by omega
            have s3 : ¬ 9223372036854775807 < x1.size + (⟨#[32, 60, 32]⟩ : ByteArray).size := by simp only [size_lit, List.size_toArray, List.length_cons, List.length_nil]; omega
            clear hsW
            have hA2 := hown2.blk_ne Bp (by decide)
            have hS : ∀ w3, Only (W.alloc (.cells #[.string (x1 ++ ⟨#[32, 60, 32]⟩ ++ x2)] 9)) w3 A2 → w3.cell? ⟨wr.heap.size, 0, none⟩ = some (.int .i64 p1) ∧ w3.cell? ⟨wr.heap.size, 1, none⟩ = some (.int .i64 p2) ∧ w3.cell? ⟨w.heap.size, 0, none⟩ = some (.slice (some ad) k c) ∧
                w3.cell? (ad.add p1) = some (.string x1) ∧ w3.cell? (ad.add p2) = some (.string x2) := fun w3 ho => by
              have Bp3 := (Bp.alloc (.cells #[.string (x1 ++ ⟨#[32, 60, 32]⟩ ++ x2)] 9)).only ho hA2
              have hlow : Below w1.heap.size W w3 := ho.of_alloc.below (K := w1.heap.size) (fun a ha => (hown2.lt ha).1) (by omega)
              exact ⟨Bp3.cell 0, Bp3.cell 1, (hlow.cell (p := ⟨w.heap.size, 0, none⟩) (by show w.heap.size < _; omega)).trans v0, (hlow.cell (by rw [block_of_add]; omega)).trans m1, (hlow.cell (by rw [block_of_add]; omega)).trans m2⟩
            go_region_held3 (fun w' => w'.cell? ⟨wr.heap.size, 0, none⟩ = some (.int .i64 p1) ∧ w'.cell? ⟨wr.heap.size, 1, none⟩ = some (.int .i64 p2) ∧ w'.cell? ⟨w.heap.size, 0, none⟩ = some (.slice (some ad) k c) ∧ w'.cell? (ad.add p1) = some (.string x1) ∧ w'.cell? (ad.add p2) = some (.string x2)) (go_keep)
              ((refine step_app1 Tryd.elTexts (by rfl) (.tmp 32) (.tmp 47) (by rfl) (by rfl) (by exact Own.drew (hown2.alloc _)) (by rfl) (Blk.new' _ _ _ _ (by simp)) (by rfl) (by simp [Value.oneCell']) (by simp only [maxLen]; omega) (by omega) (by simp; omega) ?_; intro A' c' w3 hown3 ho hmv; have ho' : Only (W.alloc (.cells #[.string (x1 ++ ⟨#[32, 60, 32]⟩ ++ x2)] 9)) w3 A2 := ⟨ho.os, ho.tape, ho.output, ho.size, ho.block⟩; have hs3 := hS w3 ho'; obtain ⟨z0, z1, z2, z3, z4⟩ := hs3))
            all_goals
              go_wp2_with fail
              go_roundw
              case rel =>
                refine ⟨j + 1, A', c', by omega, by go_num, by rfl, ?_, hb2.trans (ho'.of_alloc.below (fun a ha => (hown2.lt ha).1) (by omega))⟩
                rw [HK.out]
                simpa [txCells, Nat.add_assoc] using hown3
              case measure => simp [intOf]; omega
          · have hjn : j = n2 := by omega
            subst hjn
            rw [List.take_of_length_le (by rw [HL2.out]; omega)] at hown
            have hbw := bb1.trans (hb.mono (by omega))
            go_wp2_with (go_at_call 34; refine (join_any A2 (k + j) c3 wr.heap.size (wlines xs ps) _ hown.reads (Nat.le_refl _) HBD.out).mono ?_; rintro e w4 ⟨rfl, b4⟩)
            go_ret2
            exact ⟨rfl, hbw.trans (b4.mono hbw.size)⟩
end Go.Proofs.YtofloedgclodnaaDoor
