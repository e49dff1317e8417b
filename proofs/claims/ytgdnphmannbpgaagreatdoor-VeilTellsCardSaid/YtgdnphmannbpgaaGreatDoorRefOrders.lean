/-
  bowdlerref1.Orders.
-/
import Derived.Test.YtgdnphmannbpgaaGreatDoorGN
import Derived.Deep.CutBlock
import Derived.Deep.DeepCutAuto
namespace Go.Proofs.YtgdnphmannbpgaaGreatDoor
open Go.RowKit
set_option linter.unusedVariables false

theorem cycB_of {up : List Nat} {a : Nat} : ∀ n, (∀ b, b < n → cycAt up a b = false) → cycB up a n = false
  | 0, _ => rfl
  | n + 1, h => by rw [cycB, cycB_of n (fun b hb => h b (by omega)), h n (by omega)]; rfl
theorem cycA_of {n : Nat} {up : List Nat} : ∀ k, (∀ a b, a < k → b < n → cycAt up a b = false) → cycA n up k = false
  | 0, _ => rfl
  | k + 1, h => by rw [cycA, cycA_of k (fun a b ha hb => h a b (by omega) hb), cycB_of n (fun b hb => h k b (by omega) hb)]; rfl
/-- the closing, in place -/
theorem clos_val {C0 C1 G : Nat → Nat → Bool} {n k a b : Nat} (hC : ∀ x y, x < n → C1 x y = (C0 x y || (C0 x k && C0 k y))) (hG : ∀ x y, x < n → y < n → G x y = if x < a ∨ (x = a ∧ y < b) then C1 x y else C0 x y)
    (hk : k < n) (ha : a < n) (hb : b < n) : G a b = C0 a b ∧ G a k = C0 a k ∧ G k b = C0 k b := by
  have e1 : C1 a k = C0 a k := by rw [hC a k ha]; cases C0 a k <;> cases C0 k k <;> rfl
  have e2 : C1 k b = C0 k b := by rw [hC k b hk]; cases C0 k b <;> cases C0 k k <;> rfl
  refine ⟨?_, ?_, ?_⟩
  · rw [hG a b ha hb, if_neg (by omega)]
  · rw [hG a k ha hk, e1]; split <;> rfl
  · rw [hG k b hk hb, e2]; split <;> rfl

theorem leastT_congr {M M' : Nat → Nat → Bool} {n a b : Nat} (h : ∀ x y, x < n → y < n → M x y = M' x y) (ha : a < n) (hb : b < n) : leastT M a b n = leastT M' a b n := by
  have e : bothL M a b n = bothL M' a b n := by
    unfold bothL
    refine List.filter_congr fun x hx => ?_
    have hx := List.mem_range.1 hx
    rw [h a x ha hx, h b x hb hx]
  unfold leastT
  rw [e]
  have hm : ∀ c ∈ bothL M' a b n, c < n := fun c hc => (bothL_mem.1 hc).1
  have hq : ∀ c ∈ bothL M' a b n, ((bothL M' a b n).all fun y => M c y) = ((bothL M' a b n).all fun y => M' c y) := fun c hc => by
    rw [Bool.eq_iff_iff, List.all_eq_true, List.all_eq_true]
    exact ⟨fun g y hy => by rw [← h c y (hm c hc) (hm y hy)]; exact g y hy, fun g y hy => by rw [h c y (hm c hc) (hm y hy)]; exact g y hy⟩
  have key : ∀ l : List Nat, (∀ c ∈ l, c ∈ bothL M' a b n) → l.find? (fun c => (bothL M' a b n).all fun y => M c y) = l.find? (fun c => (bothL M' a b n).all fun y => M' c y) := by
    intro l
    induction l with
    | nil => intro _; rfl
    | cons c l ih =>
      intro hc
      rw [List.find?_cons, List.find?_cons, hq c (hc c (by simp)), ih fun d hd => hc d (by simp [hd])]
  exact key _ fun c hc => hc
theorem tab_full {set above : List Nat} {n : Nat} (hs : set.length = n) {t : List (List Nat)} (h : tabA set above n = some t) {a b : Nat} (ha : a < n) (hb : b < n) :
    ∃ row, t[a]? = some row ∧ row.length = n ∧ row[b]? = some (rowAt t a b) ∧ foundC above (at0 set a &&& at0 set b) n = some (rowAt t a b) := by
  obtain ⟨row, h1, h2, _, h4⟩ := tab_entry hs h ha hb
  obtain ⟨r, k1, k2⟩ := (tabA_len h).2 a ha
  rw [h1] at k1
  obtain rfl := Option.some.inj k1
  have := (rowB_len k2).1
  exact ⟨row, h1, by rw [this, hs], h2, h4⟩

set_option maxHeartbeats 16000000 in
set_option maxRecDepth 100000 in
theorem orders_any (A : Option Addr) (n m c K : Nat) (ps : List (Int × Int)) (w : World) (h1 : 1 ≤ n) (h64 : n ≤ 64) (hr : Reads w K 2 A m (prCells ps)) (hK : K ≤ w.heap.size) (hm : m ≤ 1048576) (hok : PairsOk n ps) :
    Calls Tryz.prog 24 #[.int .i64 (n : Int), .slice A m c] w fun e w' => Below w.heap.size w w' ∧
      ((newT n ps = none ∧ e = .returned (.tuple #[.pointer none, .int .i64 1])) ∨ ∃ p t, newT n ps = some t ∧ e = .returned (.tuple #[.pointer (some ⟨p, 0, none⟩), .int .i64 0]) ∧ OrdR w' w'.heap.size p t) := by
  have hlen : ps.length = m := by have := hr.1; rw [prCells_length] at this; omega
  have HL := Lib.hid hlen
  have HOK := Lib.hid hok
  clear hlen hok
  have hmk1 := mk_bools n h64
  have hmk2 := mk_ints n h64
  have g1 : ¬ (n : Int) < 1 := by omega
  have g2 : ¬ (64 : Int) < (n : Int) := by omega
  have g3 : decide ((n : Int) < 1) = false := decide_eq_false g1
  have g4 : decide ((64 : Int) < (n : Int)) = false := decide_eq_false g2
  have hS0 := OrdS.new w n
  have hb0 : Below w.heap.size w (w.alloc (.cells #[.int .i64 (n : Int), .slice none 0 0, .slice none 0 0, .slice none 0 0] 85)) := (Below.refl _ _).alloc (Nat.le_refl _) _
  go_enter Tryz.func24, Tryz.ntmps24
  go_upto_block 0 with fail
  obtain ⟨p, hp⟩ : ∃ p, w.heap.size = p := ⟨_, rfl⟩
  obtain ⟨base, hbase⟩ : ∃ base, w.heap.size = base := ⟨_, rfl⟩
  have hS0 : OrdS (w.alloc (.cells #[.int .i64 (n : Int), .slice none 0 0, .slice none 0 0, .slice none 0 0] 85)) base p n 0 0 0 none none none 0 0 0 (fun _ => 0) (fun _ => 0) (fun _ => 0) (fun _ _ => false) (fun _ _ => 0) (fun _ _ => 0) := by
    rw [← hp, ← hbase]; exact hS0
  have hb0 : Below base w (w.alloc (.cells #[.int .i64 (n : Int), .slice none 0 0, .slice none 0 0, .slice none 0 0] 85)) := by rw [← hbase]; exact hb0
  have hKb : K ≤ base := by omega
  simp only [hp]
  generalize w.alloc (.cells #[.int .i64 (n : Int), .slice none 0 0, .slice none 0 0, .slice none 0 0] 85) = w0 at *
  have HBASE := Lib.hid hbase
  clear hp hbase hK
  go_cut [7] (fun s7 wx => (∃ i : Int, s7 = .int .i64 i) ∧ ∃ AL AJ AM cL cJ cM gL gJ gM, OrdS wx base p n n n n AL AJ AM cL cJ cM gL gJ gM (bitAt (initU n n)) (fun _ _ => 0) (fun _ _ => 0) ∧ Below base w wx)
  case first =>
    as_aux_lemma =>
      go_wp2_with fail
      go_loopw [7] (fun s7 wr => ∃ a AL AJ AM cL cJ cM gL gJ gM, a ≤ n ∧ s7 = .int .i64 (a : Int) ∧ OrdS wr base p n a a a AL AJ AM cL cJ cM gL gJ gM (fun x y => decide (x = y)) (fun _ _ => 0) (fun _ _ => 0) ∧ Below base w wr) (fun s7 _ => n - (intOf s7).toNat)
      case atStart => exact ⟨0, _, _, _, _, _, _, _, _, _, Nat.zero_le _, rfl, hS0.congr (fun a b ha => by omega) (fun a b ha => by omega) (fun a b ha => by omega), hb0⟩
      case round =>
        clear hS0 hb0
        obtain ⟨a, AL, AJ, AM, cL, cJ, cM, gL, gJ, gM, ha, rfl, hS, hb⟩ := hrel
        by_cases hlt : a < n
        · obtain ⟨k0, k1, k2, k3⟩ := hS.cells
          have m0 : wr.cell? ⟨p, 1, none⟩ = some (.slice AL a cL) := hS.blk.cell 1
          have m1 : (wr.alloc (.cells (Array.replicate n (.bool false)) 4)).cell? ⟨p, 1, none⟩ = some (.slice AL a cL) := (hS.alloc _).blk.cell 1
          have m2 : ((wr.alloc (.cells (Array.replicate n (.bool false)) 4)).alloc (.cells #[.slice (some ⟨wr.heap.size, 0, none⟩) n n] 86)).cell? ⟨p, 1, none⟩ = some (.slice AL a cL) := ((hS.alloc _).alloc _).blk.cell 1
          go_upto_region 7 with fail
          go_cut [7] (fun s7 wx => s7 = .int .i64 (a : Int) ∧ ∃ A1 c1 g1, OrdS wx base p n (a + 1) a a A1 AJ AM c1 cJ cM g1 gJ gM (fun x y => if x = a then false else decide (x = y)) (fun _ _ => 0) (fun _ _ => 0) ∧ Below base w wx)
          case first =>
            go_region_law (refine step_app1 Tryz.elBoolRows rfl (.tmp 36) (.tmp 39) rfl rfl (by exact (hS.L.head.alloc _).alloc _) rfl (Blk.new' _ _ _ _ (by simp)) rfl (by simp [Value.oneCell']) (by simp only [maxLen]; omega) (by omega) (by simp; have := hS.size; omega) ?_; intro A1 c1 w3 hr3 ho3 hm3; have hB3 := (hS.pcell hS.L.head (by decide) (w3 := w3) ⟨ho3.os, ho3.tape, ho3.output, by have := ho3.size; simp at this; omega, fun k hk hne => (ho3.block k (by simp; omega) hne).trans ((Below.heap_alloc _ _ k (by simp; omega)).trans (Below.heap_alloc _ _ k hk))⟩); have z1 : w3.cell? ⟨p, 1, none⟩ = some (.slice AL a cL) := hB3.cell 1; have z2 := hB3.frozen 1)
            all_goals
              obtain ⟨hS2, hb2⟩ := hS.pushL (w3 := w3) rfl ⟨ho3.os, ho3.tape, ho3.output, ho3.size, ho3.block⟩ hr3
              go_wp2_with fail
              go_meet
              exact ⟨rfl, _, _, _, hS2, hb.trans hb2⟩
          case rest =>
          obtain ⟨rfl, A1, c1, g1, hS1, hb1⟩ := hcut
          apply_assumption
          clear hS hb k0 k1 k2 k3 m0 m1 m2
          generalize wc = wa at *
          obtain ⟨k0, k1, k2, k3⟩ := hS1.cells
          have m0 : wa.cell? ⟨p, 2, none⟩ = some (.slice AJ a cJ) := hS1.blk.cell 2
          have m1 : (wa.alloc (.cells (Array.replicate n (.int .i64 0)) 3)).cell? ⟨p, 2, none⟩ = some (.slice AJ a cJ) := (hS1.alloc _).blk.cell 2
          have m2 : ((wa.alloc (.cells (Array.replicate n (.int .i64 0)) 3)).alloc (.cells #[.slice (some ⟨wa.heap.size, 0, none⟩) n n] 81)).cell? ⟨p, 2, none⟩ = some (.slice AJ a cJ) := ((hS1.alloc _).alloc _).blk.cell 2
          go_upto_region 8 with fail
          go_cut [7] (fun s7 wx => s7 = .int .i64 (a : Int) ∧ ∃ A2 c2 g2, OrdS wx base p n (a + 1) (a + 1) a A1 A2 AM c1 c2 cM g1 g2 gM (fun x y => if x = a then false else decide (x = y)) (fun _ _ => 0) (fun _ _ => 0) ∧ Below base w wx)
          case first =>
            go_region_law (refine step_app1 Tryz.elIntRows rfl (.tmp 47) (.tmp 50) rfl rfl (by exact (hS1.J.head.alloc _).alloc _) rfl (Blk.new' _ _ _ _ (by simp)) rfl (by simp [Value.oneCell']) (by simp only [maxLen]; omega) (by omega) (by simp; have := hS1.size; omega) ?_; intro A2 c2 w3 hr3 ho3 hm3; have hB3 := (hS1.pcell hS1.J.head (by decide) (w3 := w3) ⟨ho3.os, ho3.tape, ho3.output, by have := ho3.size; simp at this; omega, fun k hk hne => (ho3.block k (by simp; omega) hne).trans ((Below.heap_alloc _ _ k (by simp; omega)).trans (Below.heap_alloc _ _ k hk))⟩); have z1 : w3.cell? ⟨p, 2, none⟩ = some (.slice AJ a cJ) := hB3.cell 2; have z2 := hB3.frozen 2)
            all_goals
              obtain ⟨hS2, hb2⟩ := hS1.pushJ (w3 := w3) rfl ⟨ho3.os, ho3.tape, ho3.output, ho3.size, ho3.block⟩ hm3 hr3
              go_wp2_with fail
              go_meet
              exact ⟨rfl, _, _, _, hS2.congr (fun _ _ _ _ => rfl) (fun x y _ _ => by split <;> rfl) (fun _ _ _ _ => rfl), hb1.trans hb2⟩
          case rest =>
          obtain ⟨rfl, A2, c2, g2, hS2, hb2⟩ := hcut
          apply_assumption
          clear hS1 hb1 k0 k1 k2 k3 m0 m1 m2
          generalize wc = wb at *
          obtain ⟨k0, k1, k2, k3⟩ := hS2.cells
          have m0 : wb.cell? ⟨p, 3, none⟩ = some (.slice AM a cM) := hS2.blk.cell 3
          have m1 : (wb.alloc (.cells (Array.replicate n (.int .i64 0)) 3)).cell? ⟨p, 3, none⟩ = some (.slice AM a cM) := (hS2.alloc _).blk.cell 3
          have m2 : ((wb.alloc (.cells (Array.replicate n (.int .i64 0)) 3)).alloc (.cells #[.slice (some ⟨wb.heap.size, 0, none⟩) n n] 81)).cell? ⟨p, 3, none⟩ = some (.slice AM a cM) := ((hS2.alloc _).alloc _).blk.cell 3
          go_upto_region 9 with fail
          go_cut [7] (fun s7 wx => s7 = .int .i64 (a : Int) ∧ ∃ A3 c3 g3, OrdS wx base p n (a + 1) (a + 1) (a + 1) A1 A2 A3 c1 c2 c3 g1 g2 g3 (fun x y => if x = a then false else decide (x = y)) (fun _ _ => 0) (fun _ _ => 0) ∧ Below base w wx)
          case first =>
            go_region_law (refine step_app1 Tryz.elIntRows rfl (.tmp 58) (.tmp 61) rfl rfl (by exact (hS2.M.head.alloc _).alloc _) rfl (Blk.new' _ _ _ _ (by simp)) rfl (by simp [Value.oneCell']) (by simp only [maxLen]; omega) (by omega) (by simp; have := hS2.size; omega) ?_; intro A3 c3 w3 hr3 ho3 hm3; have hB3 := (hS2.pcell hS2.M.head (by decide) (w3 := w3) ⟨ho3.os, ho3.tape, ho3.output, by have := ho3.size; simp at this; omega, fun k hk hne => (ho3.block k (by simp; omega) hne).trans ((Below.heap_alloc _ _ k (by simp; omega)).trans (Below.heap_alloc _ _ k hk))⟩); have z1 : w3.cell? ⟨p, 3, none⟩ = some (.slice AM a cM) := hB3.cell 3; have z2 := hB3.frozen 3)
            all_goals
              obtain ⟨hS3, hb3⟩ := hS2.pushM (w3 := w3) rfl ⟨ho3.os, ho3.tape, ho3.output, ho3.size, ho3.block⟩ hm3 hr3
              go_wp2_with fail
              go_meet
              exact ⟨rfl, _, _, _, hS3.congr (fun _ _ _ _ => rfl) (fun _ _ _ _ => rfl) (fun x y _ _ => by split <;> rfl), hb2.trans hb3⟩
          case rest =>
          obtain ⟨rfl, A3, c3, g3, hS3, hb3⟩ := hcut
          apply_assumption
          clear hS2 hb2 k0 k1 k2 k3 m0 m1 m2
          generalize wc = wd at *
          obtain ⟨k0, k1, k2, k3⟩ := hS3.cells
          obtain ⟨q, rfl, _, _⟩ := hS3.L.some_ (by omega)
          have z1 := hS3.L.hcell (a := a) (by omega)
          obtain ⟨z2, z3⟩ := hS3.L.cell (a := a) (b := a) (by omega) hlt
          obtain ⟨hS4, hb4⟩ := hS3.setL (a := a) (b := a) (by omega) hlt true
          go_wp2_with fail
          go_roundw
          case rel =>
            refine ⟨a + 1, _, _, _, _, _, _, _, _, _, by omega, by go_num, hS4.congr (fun x y hx hy => ?_) (fun _ _ _ _ => rfl) (fun _ _ _ _ => rfl), hb3.trans hb4⟩
            by_cases e : x = a
            · subst e
              by_cases e2 : y = x
              · subst e2; simp
              · rw [if_neg (fun h => e2 h.2), if_pos rfl, decide_eq_false (fun h => e2 h.symm)]
            · rw [if_neg (fun h => e h.1), if_neg e]
          case measure => simp [intOf]; omega
        · have han : a = n := by omega
          subst han
          go_wp2_with fail
          go_meet
          exact ⟨⟨_, rfl⟩, _, _, _, _, _, _, _, _, _, hS.congr (fun x y hx hy => by rw [initU_bit a a (Nat.le_refl _), decide_eq_true hx, Bool.and_true]) (fun _ _ _ _ => rfl) (fun _ _ _ _ => rfl), hb⟩
  case rest =>
  obtain ⟨⟨i7, rfl⟩, AL, AJ, AM, cL, cJ, cM, gL, gJ, gM, hS1, hb1⟩ := hcut
  apply_assumption
  clear hS0 hb0
  generalize wc = w1 at *
  obtain ⟨qL, rfl, _, _⟩ := hS1.L.some_ (by omega)
  obtain ⟨qJ, rfl, _, _⟩ := hS1.J.some_ (by omega)
  obtain ⟨qM, rfl, _, _⟩ := hS1.M.some_ (by omega)
  -- the pairs
  go_upto_block 2 with fail
  go_cut [8] (fun s8 wx => (∃ i : Int, s8 = .int .i64 i) ∧ OrdS wx base p n n n n (some ⟨qL, 0, none⟩) (some ⟨qJ, 0, none⟩) (some ⟨qM, 0, none⟩) cL cJ cM gL gJ gM (bitAt (edgesU (initU n n) ps)) (fun _ _ => 0) (fun _ _ => 0) ∧ Below base w wx)
  case first =>
    as_aux_lemma =>
      go_wp2_with fail
      go_loopw [8] (fun s8 wr => ∃ j : Nat, j ≤ m ∧ s8 = .int .i64 (j : Int) ∧ OrdS wr base p n n n n (some ⟨qL, 0, none⟩) (some ⟨qJ, 0, none⟩) (some ⟨qM, 0, none⟩) cL cJ cM gL gJ gM (bitAt (edgesU (initU n n) (ps.take j))) (fun _ _ => 0) (fun _ _ => 0) ∧ Below base w wr) (fun s8 _ => m - (intOf s8).toNat)
      case atStart => exact ⟨0, Nat.zero_le _, rfl, hS1, hb1⟩
      case round =>
        clear hS1 hb1
        obtain ⟨j, hj, rfl, hS, hb⟩ := hrel
        by_cases hlt : j < m
        · have hlt2 : j < ps.length := by rw [HL.out]; exact hlt
          have hcat := prCells_at ps j hlt2
          have hq := HOK.out ps[j] (List.getElem_mem hlt2)
          have htk : ps.take (j + 1) = ps.take j ++ [ps[j]] := by rw [List.take_add_one, List.getElem?_eq_getElem hlt2]; rfl
          generalize ps[j] = q at hq hcat htk
          obtain ⟨ad, rfl, _, hc0, hc1⟩ := (hr.below (hb.mono hKb)).elem hlt
          have c0 := hc0 _ hcat.1
          have c1 := hc1 1 _ (by decide) hcat.2
          obtain ⟨q1, q2⟩ := q
          obtain ⟨b1, b2, b3, b4⟩ := hq
          simp only at b1 b2 b3 b4 c0 c1
          obtain ⟨a, rfl⟩ := Int.eq_ofNat_of_zero_le b1
          obtain ⟨b, rfl⟩ := Int.eq_ofNat_of_zero_le b3
          have ha : a < n := by omega
          have hb' : b < n := by omega
          have HTK : Hid (∀ x y, bitAt (edgesU (initU n n) (ps.take (j + 1))) x y = (bitAt (edgesU (initU n n) (ps.take j)) x y || (decide (x = a) && decide (y = b)))) := Lib.hid (fun x y => by
            rw [htk, edgesU_snoc, edgeU_bit _ _ (by rw [edgesU_len, initU_len]; simpa using ha)]
            simp)
          have d1 : ¬ (a : Int) < 0 := by omega
          have d2 : ¬ (b : Int) < 0 := by omega
          have d3 : ¬ (n : Int) ≤ (a : Int) := by omega
          have d4 : ¬ (n : Int) ≤ (b : Int) := by omega
          clear hc0 hc1 hcat htk b1 b2 b3 b4
          go_upto_region 14 with fail
          go_quiet (fail)
          have hSd := hS.drewN nq
          have hbd := below_drewN' hb nq
          clear hS hb c0 c1
          generalize wr.drewN nq = wd at *
          obtain ⟨k0, k1, k2, k3⟩ := hSd.cells
          have z1 := hSd.L.hcell ha
          obtain ⟨z2, z3⟩ := hSd.L.cell ha hb'
          obtain ⟨hS4, hb4⟩ := hSd.setL ha hb' true
          go_wp2_with fail
          go_roundw
          case rel =>
            refine ⟨j + 1, by omega, by go_num, hS4.congr (fun x y hx hy => ?_) (fun _ _ _ _ => rfl) (fun _ _ _ _ => rfl), hbd.trans hb4⟩
            rw [HTK.out]
            by_cases e : x = a ∧ y = b
            · rw [if_pos e, decide_eq_true e.1, decide_eq_true e.2]; simp
            · rw [if_neg e]
              have : (decide (x = a) && decide (y = b)) = false := by simpa using e
              rw [this, Bool.or_false]
          case measure => simp [intOf]; omega
        · have hjm : ps.take j = ps := List.take_of_length_le (by rw [HL.out]; omega)
          rw [hjm] at hS
          go_wp2_with fail
          go_meet
          exact ⟨⟨_, rfl⟩, hS, hb⟩
  case rest =>
  obtain ⟨⟨i8, rfl⟩, hS2, hb2⟩ := hcut
  apply_assumption
  clear hS1 hb1
  generalize wc = w2 at *
  obtain ⟨E, hE⟩ : ∃ E, edgesU (initU n n) ps = E := ⟨_, rfl⟩
  have hEl : E.length = n := by rw [← hE, edgesU_len, initU_len]
  rw [hE] at hS2
  have HE := Lib.hid hE
  have HEL := Lib.hid hEl
  clear hE hEl
  -- the closing
  go_upto_block 4 with fail
  go_cut [11] (fun s11 wx => (∃ i : Int, s11 = .int .i64 i) ∧ OrdS wx base p n n n n (some ⟨qL, 0, none⟩) (some ⟨qJ, 0, none⟩) (some ⟨qM, 0, none⟩) cL cJ cM gL gJ gM (bitAt (closeK n E n)) (fun _ _ => 0) (fun _ _ => 0) ∧ Below base w wx)
  case first =>
    as_aux_lemma =>
      go_wp2_with fail
      go_loopw [11] (fun s11 wr => ∃ k : Nat, k ≤ n ∧ s11 = .int .i64 (k : Int) ∧ OrdS wr base p n n n n (some ⟨qL, 0, none⟩) (some ⟨qJ, 0, none⟩) (some ⟨qM, 0, none⟩) cL cJ cM gL gJ gM (bitAt (closeK n E k)) (fun _ _ => 0) (fun _ _ => 0) ∧ Below base w wr) (fun s11 _ => n - (intOf s11).toNat)
      case atStart => exact ⟨0, Nat.zero_le _, rfl, hS2, hb2⟩
      case round =>
        clear hS2 hb2
        obtain ⟨k, hk, rfl, hS, hb⟩ := hrel
        by_cases hlt : k < n
        · have HC : Hid (∀ x y, x < n → bitAt (closeK n E (k + 1)) x y = (bitAt (closeK n E k) x y || (bitAt (closeK n E k) x k && bitAt (closeK n E k) k y))) := Lib.hid (fun x y hx => closeK_bit n E HEL.out k x y hx)
          obtain ⟨C1, hC1⟩ : ∃ C1, bitAt (closeK n E (k + 1)) = C1 := ⟨_, rfl⟩
          have HCC1 : Hid (∀ x y, bitAt (closeK n E (k + 1)) x y = C1 x y) := Lib.hid (fun x y => by rw [hC1])
          rw [hC1] at HC
          clear hC1
          generalize bitAt (closeK n E k) = C0 at *
          go_wp2_with fail
          go_loopw [12] (fun s12 wr => ∃ a : Nat, a ≤ n ∧ s12 = .int .i64 (a : Int) ∧ OrdS wr base p n n n n (some ⟨qL, 0, none⟩) (some ⟨qJ, 0, none⟩) (some ⟨qM, 0, none⟩) cL cJ cM gL gJ gM (fun x y => if x < a then C1 x y else C0 x y) (fun _ _ => 0) (fun _ _ => 0) ∧ Below base w wr) (fun s12 _ => n - (intOf s12).toNat)
          case atStart => exact ⟨0, Nat.zero_le _, rfl, hS.congr (fun x y _ _ => by rw [if_neg (Nat.not_lt_zero _)]) (fun _ _ _ _ => rfl) (fun _ _ _ _ => rfl), hb⟩
          case round =>
            clear hS hb
            obtain ⟨a, ha, rfl, hS, hb⟩ := hrel
            by_cases hlta : a < n
            · go_wp2_with fail
              go_loopw [13] (fun s13 wr => ∃ b : Nat, b ≤ n ∧ s13 = .int .i64 (b : Int) ∧ OrdS wr base p n n n n (some ⟨qL, 0, none⟩) (some ⟨qJ, 0, none⟩) (some ⟨qM, 0, none⟩) cL cJ cM gL gJ gM (fun x y => if x < a ∨ (x = a ∧ y < b) then C1 x y else C0 x y) (fun _ _ => 0) (fun _ _ => 0) ∧ Below base w wr) (fun s13 _ => n - (intOf s13).toNat)
              case atStart => exact ⟨0, Nat.zero_le _, rfl, hS.congr (fun x y _ _ => by by_cases h : x < a <;> simp [h]) (fun _ _ _ _ => rfl) (fun _ _ _ _ => rfl), hb⟩
              case round =>
                clear hS hb
                obtain ⟨b, hbn, rfl, hS, hb⟩ := hrel
                by_cases hltb : b < n
                · obtain ⟨v1, v2, v3⟩ := clos_val (C0 := C0) (C1 := C1) (G := fun x y => if x < a ∨ (x = a ∧ y < b) then C1 x y else C0 x y) HC.out (fun _ _ _ _ => rfl) hlt hlta hltb
                  obtain ⟨k0, k1, k2, k3⟩ := hS.cells
                  have za := hS.L.hcell hlta
                  have zk := hS.L.hcell hlt
                  have f1 := (hS.L.cell hlta hltb).2
                  have y1 : wr.cell? ⟨gL a, b, none⟩ = some (.bool (C0 a b)) := (hS.L.cell hlta hltb).1.trans (congrArg (fun v => some (Value.bool v)) v1)
                  have y2 : wr.cell? ⟨gL a, k, none⟩ = some (.bool (C0 a k)) := (hS.L.cell hlta hlt).1.trans (congrArg (fun v => some (Value.bool v)) v2)
                  have y3 : wr.cell? ⟨gL k, b, none⟩ = some (.bool (C0 k b)) := (hS.L.cell hlt hltb).1.trans (congrArg (fun v => some (Value.bool v)) v3)
                  have hC := HC.out a b hlta
                  have HS4 := Lib.hid (fun (W : World) (h : OrdS W base p n n n n (some ⟨qL, 0, none⟩) (some ⟨qJ, 0, none⟩) (some ⟨qM, 0, none⟩) cL cJ cM gL gJ gM (fun x y => if x < a ∨ (x = a ∧ y < b) then C1 x y else C0 x y) (fun _ _ => 0) (fun _ _ => 0)) => h.setL hlta hltb (C1 a b))
                  clear v1 v2 v3
                  go_upto_region 27 with fail
                  cases e1 : C0 a b
                  case' true =>
                    rw [e1] at y1 hC
                    have HV : Hid (C1 a b = true) := Lib.hid (by rw [hC]; rfl)
                  case' false =>
                    rw [e1] at y1 hC
                    cases e2 : C0 a k
                    case' false =>
                      rw [e2] at y2 hC
                      have HV : Hid (C1 a b = false) := Lib.hid (by rw [hC]; rfl)
                    case' true =>
                      rw [e2] at y2 hC
                      have HV : Hid (C1 a b = C0 k b) := Lib.hid (by rw [hC]; simp)
                  all_goals
                    clear hC k0 k2 k3
                    refine wp_region_still_tail 43 (by kernel_rfl) (by kernel_rfl) ?_
                    simp only [List.take_succ_cons, List.take_zero, List.drop_succ_cons, List.drop_zero]
                    repeat (with_reducible refine wpStill_step (fun K hK => ?_); go_simp; (try rw [if_neg (by decide)]); with_reducible refine hK _ ?_; clear hK K)
                    refine wpStill_nil ?_
                    change wpList _ _ _ _ _ wr.drew
                    obtain ⟨hS4, hb4⟩ := HS4.out wr.drew (hS.drewN 1)
                    rw [HV.out] at hS4 hb4
                    have f2 : wr.drew.frozen? ⟨gL a, b, none⟩ = false := f1
                    have y4 : wr.drew.cell? ⟨gL a, b, none⟩ = some _ := y1
                    have hbd := hb.drew
                    go_wp2_with fail
                    go_roundw
                    case rel =>
                      refine ⟨b + 1, by omega, by go_num, hS4.congr (fun x y hx hy => ?_) (fun _ _ _ _ => rfl) (fun _ _ _ _ => rfl), hbd.trans hb4⟩
                      by_cases e : x = a ∧ y = b
                      · rw [if_pos e, e.1, e.2, if_pos (Or.inr ⟨rfl, by omega⟩), HV.out]
                      · rw [if_neg e]
                        by_cases h5 : x < a ∨ (x = a ∧ y < b)
                        · rw [if_pos h5, if_pos (by omega)]
                        · rw [if_neg h5, if_neg (by omega)]
                    case measure => simp [intOf]; omega
                · have hbb : b = n := by omega
                  subst hbb
                  go_wp2_with fail
                  go_roundw
                  case rel =>
                    refine ⟨a + 1, by omega, by go_num, hS.congr (fun x y hx hy => ?_) (fun _ _ _ _ => rfl) (fun _ _ _ _ => rfl), hb⟩
                    by_cases h5 : x < a ∨ (x = a ∧ y < b)
                    · rw [if_pos h5, if_pos (by omega)]
                    · rw [if_neg h5, if_neg (by omega)]
                  case measure => simp [intOf]; omega
            · have haa : a = n := by omega
              subst haa
              go_wp2_with fail
              go_roundw
              case rel => exact ⟨k + 1, by omega, by go_num, hS.congr (fun x y hx hy => by rw [if_pos hx]; exact (HCC1.out x y).symm) (fun _ _ _ _ => rfl) (fun _ _ _ _ => rfl), hb⟩
              case measure => simp [intOf]; omega
        · have hkn : k = n := by omega
          subst hkn
          go_wp2_with fail
          go_meet
          exact ⟨⟨_, rfl⟩, hS, hb⟩
  case rest =>
  obtain ⟨⟨i11, rfl⟩, hS3, hb3⟩ := hcut
  apply_assumption
  clear hS2 hb2
  generalize wc = w3 at *
  obtain ⟨U, hU⟩ : ∃ U, closeK n E n = U := ⟨_, rfl⟩
  have hUT : upsT n ps = U := by unfold upsT; rw [HE.out, hU]
  have hUP : UpOk n U := by
    rw [← hUT]
    exact upsT_up fun q hq => by
      obtain ⟨b1, b2, b3, b4⟩ := HOK.out q hq
      omega
  rw [hU] at hS3
  have HUT := Lib.hid hUT
  have HUP := Lib.hid hUP
  clear hUT hUP hU HE HEL hmk1 hmk2
  -- two above one another
  go_upto_block 10 with fail
  go_cut [14] (fun s14 wx => (∃ i : Int, s14 = .int .i64 i) ∧ Hid (cycA n U n = false) ∧ wx = w3)
  case first =>
    as_aux_lemma =>
      obtain ⟨k0, k1, k2, k3⟩ := hS3.cells
      go_wp2_with fail
      go_loop [14] (fun s14 => ∃ a : Nat, a ≤ n ∧ s14 = .int .i64 (a : Int) ∧ Hid (∀ x y, x < a → y < n → cycAt U x y = false)) (fun s14 => n - (intOf s14).toNat)
      case atStart => exact ⟨0, Nat.zero_le _, rfl, Lib.hid (fun x y hx => by omega)⟩
      case round =>
        obtain ⟨a, ha, rfl, HA⟩ := hrel
        by_cases hlt : a < n
        · go_wp2_with fail
          go_loop [15] (fun s15 => ∃ b : Nat, b ≤ n ∧ s15 = .int .i64 (b : Int) ∧ Hid (∀ y, y < b → cycAt U a y = false)) (fun s15 => n - (intOf s15).toNat)
          case atStart => exact ⟨0, Nat.zero_le _, rfl, Lib.hid (fun y hy => by omega)⟩
          case round =>
            obtain ⟨b, hbn, rfl, HB⟩ := hrel
            by_cases hltb : b < n
            · have za := hS3.L.hcell hlt
              have zb := hS3.L.hcell hltb
              have y1 : w3.cell? ⟨gL a, b, none⟩ = some (.bool (bitAt U a b)) := (hS3.L.cell hlt hltb).1
              have y2 : w3.cell? ⟨gL b, a, none⟩ = some (.bool (bitAt U b a)) := (hS3.L.cell hltb hlt).1
              have hcy : cycAt U a b = (bitAt U a b && decide (a ≠ b) && bitAt U b a) := rfl
              have hnx : cycAt U a b = false → ∀ y, y < b + 1 → cycAt U a y = false := fun h y hy => by
                rcases Nat.lt_or_ge y b with h2 | h2
                · exact HB.out y h2
                · have : y = b := by omega
                  subst this; exact h
              by_cases hab : a = b
              · have HN := Lib.hid (hnx (by rw [hcy, decide_eq_false (fun h => h hab)]; simp))
                have q1 : ((a : Int) != (b : Int)) = false := by simp; omega
                clear hab hcy hnx
                go_wp2_with fail
                go_round
                case rel => exact ⟨b + 1, by omega, by go_num, HN⟩
                case measure => simp [intOf]; omega
              have q1 : ((a : Int) != (b : Int)) = true := by simp; omega
              cases e1 : bitAt U a b
              · have HN := Lib.hid (hnx (by rw [hcy, e1]; rfl))
                rw [e1] at y1
                clear hab hcy hnx e1
                go_wp2_with fail
                go_round
                case rel => exact ⟨b + 1, by omega, by go_num, HN⟩
                case measure => simp [intOf]; omega
              cases e2 : bitAt U b a
              · have HN := Lib.hid (hnx (by rw [hcy, e2]; simp))
                rw [e1] at y1
                rw [e2] at y2
                clear hab hcy hnx e1 e2
                go_wp2_with fail
                go_round
                case rel => exact ⟨b + 1, by omega, by go_num, HN⟩
                case measure => simp [intOf]; omega
              have HNT : Hid (newT n ps = none) := Lib.hid (newT_cyc hlt hltb (by rw [HUT.out, hcy, e1, e2, decide_eq_true hab]; rfl))
              rw [e1] at y1
              rw [e2] at y2
              clear hab hcy hnx e1 e2
              go_wp2_with fail
              go_ret2
              exact ⟨by rw [HBASE.out]; exact hb3, .inl ⟨HNT.out, rfl⟩⟩
            · have HA2 : Hid (∀ x y, x < a + 1 → y < n → cycAt U x y = false) := Lib.hid (fun x y hx hy => by
                rcases Nat.lt_or_ge x a with h2 | h2
                · exact HA.out x y h2 hy
                · have : x = a := by omega
                  subst this; exact HB.out y (by omega))
              go_wp2_with fail
              go_round
              case rel => exact ⟨a + 1, by omega, by go_num, HA2⟩
              case measure => simp [intOf]; omega
        · have HCA : Hid (cycA n U n = false) := Lib.hid (cycA_of n (fun x y hx hy => HA.out x y (by omega) hy))
          go_wp2_with fail
          go_meet
          exact ⟨⟨_, rfl⟩, HCA, rfl⟩
  case rest =>
  obtain ⟨⟨i14, rfl⟩, HCY, hwW⟩ := hcut
  rw [hwW]
  clear hwW
  apply_assumption
  -- the tables
  have hanti : ∀ a b, a < n → b < n → bitAt U a b = true → bitAt U b a = true → a = b := fun a b ha hb => cyc_anti HCY.out ha hb
  obtain ⟨D, hD⟩ : ∃ D, downA n U n = D := ⟨_, rfl⟩
  have hDP : UpOk n D := by rw [← hD]; exact downA_up HUP.out
  have hDbit : ∀ a b, a < n → b < n → bitAt D a b = bitAt U b a := fun a b ha hb => by
    rw [← hD]
    have := downA_bit n U n a b ha
    unfold bitAt
    rw [this, decide_eq_true hb, Bool.true_and]
  have hDanti : ∀ a b, a < n → b < n → bitAt D a b = true → bitAt D b a = true → a = b := fun a b ha hb g1 g2 => by
    rw [hDbit a b ha hb] at g1
    rw [hDbit b a hb ha] at g2
    exact hanti a b ha hb g2 g1
  obtain ⟨lJ, hlJ⟩ : ∃ lJ : Nat → Nat → Option Nat, ∀ x y, leastT (bitAt U) x y n = lJ x y := ⟨fun x y => leastT (bitAt U) x y n, fun _ _ => rfl⟩
  obtain ⟨lM, hlM⟩ : ∃ lM : Nat → Nat → Option Nat, ∀ x y, leastT (fun x y => bitAt U y x) x y n = lM x y := ⟨fun x y => leastT (fun x y => bitAt U y x) x y n, fun _ _ => rfl⟩
  have HLJ := Lib.hid hlJ
  have HLM := Lib.hid hlM
  have HJ : Hid (∀ x y, x < n → y < n → lJ x y = foundC U (at0 U x &&& at0 U y) n) := Lib.hid (fun x y hx hy => by rw [← hlJ]; exact least_found HUP.out hanti hx hy)
  have HM : Hid (∀ x y, x < n → y < n → lM x y = foundC D (at0 D x &&& at0 D y) n) := Lib.hid (fun x y hx hy => by
    rw [← hlM, leastT_congr (M' := bitAt D) (fun a b ha hb => (hDbit a b ha hb).symm) hx hy]
    exact least_found hDP hDanti hx hy)
  have HNEW : Hid (newT n ps = match tabA U U n, tabA D D n with | some j, some m => some ⟨n, U, j, m⟩ | _, _ => none) := Lib.hid (by
    unfold newT
    simp only
    rw [HUT.out, HCY.out, if_neg (by decide), hD]
    cases tabA U U n <;> cases tabA D D n <;> rfl)
  have HDL := Lib.hid hDP.len
  have HUL := Lib.hid HUP.out.len
  clear hanti hD hDP hDbit hDanti hlJ hlM
  go_upto_block 14 with fail
  go_cut [16] (fun s16 wx => (∃ i : Int, s16 = .int .i64 i) ∧ Hid (∀ x y, x < n → y < n → (∃ d, lJ x y = some d) ∧ ∃ d, lM x y = some d) ∧ OrdS wx base p n n n n (some ⟨qL, 0, none⟩) (some ⟨qJ, 0, none⟩) (some ⟨qM, 0, none⟩) cL cJ cM gL gJ gM (bitAt U) (fun x y => optI (lJ x y)) (fun x y => optI (lM x y)) ∧ Below base w wx)
  case first =>
    as_aux_lemma =>
      go_wp2_with fail
      go_loopw [16] (fun s16 wr => ∃ a : Nat, a ≤ n ∧ s16 = .int .i64 (a : Int) ∧ Hid (∀ x y, x < a → y < n → (∃ d, lJ x y = some d) ∧ ∃ d, lM x y = some d) ∧ OrdS wr base p n n n n (some ⟨qL, 0, none⟩) (some ⟨qJ, 0, none⟩) (some ⟨qM, 0, none⟩) cL cJ cM gL gJ gM (bitAt U) (fun x y => if x < a then optI (lJ x y) else 0) (fun x y => if x < a then optI (lM x y) else 0) ∧ Below base w wr) (fun s16 _ => n - (intOf s16).toNat)
      case atStart => exact ⟨0, Nat.zero_le _, rfl, Lib.hid (fun x y hx => by omega), hS3.congr (fun _ _ _ _ => rfl) (fun x y _ _ => by rw [if_neg (Nat.not_lt_zero _)]) (fun x y _ _ => by rw [if_neg (Nat.not_lt_zero _)]), hb3⟩
      case round =>
        clear hS3 hb3
        obtain ⟨a, ha, rfl, HA, hS, hb⟩ := hrel
        by_cases hlta : a < n
        · go_wp2_with fail
          go_loopw [17] (fun s17 wr => ∃ b : Nat, b ≤ n ∧ s17 = .int .i64 (b : Int) ∧ Hid (∀ y, y < b → (∃ d, lJ a y = some d) ∧ ∃ d, lM a y = some d) ∧ OrdS wr base p n n n n (some ⟨qL, 0, none⟩) (some ⟨qJ, 0, none⟩) (some ⟨qM, 0, none⟩) cL cJ cM gL gJ gM (bitAt U) (fun x y => if x < a ∨ (x = a ∧ y < b) then optI (lJ x y) else 0) (fun x y => if x < a ∨ (x = a ∧ y < b) then optI (lM x y) else 0) ∧ Below base w wr) (fun s17 _ => n - (intOf s17).toNat)
          case atStart => exact ⟨0, Nat.zero_le _, rfl, Lib.hid (fun y hy => by omega), hS.congr (fun _ _ _ _ => rfl) (fun x y _ _ => by by_cases h : x < a <;> simp [h]) (fun x y _ _ => by by_cases h : x < a <;> simp [h]), hb⟩
          case round =>
            clear hS hb
            obtain ⟨b, hbn, rfl, HB, hS, hb⟩ := hrel
            by_cases hltb : b < n
            · have HC1 : Hid (∀ W, OrdS W base p n n n n (some ⟨qL, 0, none⟩) (some ⟨qJ, 0, none⟩) (some ⟨qM, 0, none⟩) cL cJ cM gL gJ gM (bitAt U) (fun x y => if x < a ∨ (x = a ∧ y < b) then optI (lJ x y) else 0) (fun x y => if x < a ∨ (x = a ∧ y < b) then optI (lM x y) else 0) → Calls Tryz.prog 54 #[.pointer (some ⟨p, 0, none⟩), .int .i64 (a : Int), .int .i64 (b : Int), .bool true] W fun e w' => e = .returned (.int .i64 (optI (lJ a b))) ∧ Below W.heap.size W w') := Lib.hid fun W h => by
                rw [← HLJ.out]
                exact refLeastU_any p n W.heap.size _ _ _ _ _ a b W h.blk (h.L.tabB (by omega)) (Nat.le_refl _) hlta hltb h64
              have HC2 : Hid (∀ W, OrdS W base p n n n n (some ⟨qL, 0, none⟩) (some ⟨qJ, 0, none⟩) (some ⟨qM, 0, none⟩) cL cJ cM gL gJ gM (bitAt U) (fun x y => if x < a ∨ (x = a ∧ y < b) then optI (lJ x y) else 0) (fun x y => if x < a ∨ (x = a ∧ y < b) then optI (lM x y) else 0) → Calls Tryz.prog 54 #[.pointer (some ⟨p, 0, none⟩), .int .i64 (a : Int), .int .i64 (b : Int), .bool false] W fun e w' => e = .returned (.int .i64 (optI (lM a b))) ∧ Below W.heap.size W w') := Lib.hid fun W h => by
                rw [← HLM.out]
                exact refLeastD_any p n W.heap.size _ _ _ _ _ a b W h.blk (h.L.tabB (by omega)) (Nat.le_refl _) hlta hltb h64
              have hzs := hS.size
              obtain ⟨k0, k1, k2, k3⟩ := hS.cells
              have zJ := hS.J.hcell hlta
              have zM := hS.M.hcell hlta
              have st0 := trivial
              go_upto_region 42 with fail
              go_region_held3 (fun w' => w'.cell? ⟨p, 0 + 2, none⟩ = some (.slice (some ⟨qJ, 0, none⟩) n cJ) ∧ w'.cell? ⟨p, 0 + 3, none⟩ = some (.slice (some ⟨qM, 0, none⟩) n cM) ∧ w'.cell? ⟨qJ, a, none⟩ = some (.slice (some ⟨gJ a, 0, none⟩) n n) ∧ w'.cell? ⟨qM, a, none⟩ = some (.slice (some ⟨gM a, 0, none⟩) n n)) ((first | go_keep | exact ⟨by assumption, by assumption, by assumption, by assumption⟩))
                (first
                  | (have st1 := st0; clear st0; go_at_call 54; refine (HC1.out _ (by first | exact hS | exact hS.drewN 1)).mono ?_; rintro e w5 ⟨rfl, b5⟩; have b5' := below_of_drew b5; have hS5 := hS.below b5' (Nat.le_refl _); obtain ⟨_, _, j2, j3⟩ := hS5.cells; have jJ := hS5.J.hcell hlta; have jM := hS5.M.hcell hlta)
                  | (have st2 := st1; clear st1; go_at_call 54; refine (HC2.out _ hS5).mono ?_; rintro e w6 ⟨rfl, b6⟩; have hS6 := hS5.below b6 (Nat.le_refl _); obtain ⟨_, _, l2, l3⟩ := hS6.cells; have lJ' := hS6.J.hcell hlta; have lM' := hS6.M.hcell hlta; obtain ⟨f1, f2⟩ := hS6.J.cell hlta hltb; obtain ⟨hS7, hb7⟩ := hS6.setJ hlta hltb (optI (lJ a b)); obtain ⟨_, _, n2, n3⟩ := hS7.cells; have nJ := hS7.J.hcell hlta; have nM := hS7.M.hcell hlta; obtain ⟨f3, f4⟩ := hS7.M.cell hlta hltb; obtain ⟨hS8, hb8⟩ := hS7.setM hlta hltb (optI (lM a b)); obtain ⟨_, _, o2, o3⟩ := hS8.cells; have oJ := hS8.J.hcell hlta; have oM := hS8.M.hcell hlta))
              have zJ8 := (hS8.J.cell hlta hltb).1.trans (congrArg (fun v => some (Value.int .i64 v)) (if_pos ⟨rfl, rfl⟩))
              have zM8 := (hS8.M.cell hlta hltb).1.trans (congrArg (fun v => some (Value.int .i64 v)) (if_pos ⟨rfl, rfl⟩))
              have hb9 := (((hb.trans (b5'.mono hzs)).trans (b6.mono (by have := b5'.size; omega))).trans hb7).trans hb8
              clear hS hS5 hS6 hS7 hb b5 b5' b6 hb7 hb8 f1 f2 f3 f4 j2 j3 jJ jM l2 l3 lJ' lM' n2 n3 nJ nM k0 k1 k2 k3 zJ zM HC1 HC2
              generalize (w6.setCell ⟨gJ a, b, none⟩ (.int .i64 (optI (lJ a b)))).setCell ⟨gM a, b, none⟩ (.int .i64 (optI (lM a b))) = w8 at *
              cases eJ : lJ a b with
              | none =>
                have HNT : Hid (newT n ps = none) := Lib.hid (by
                  rw [HNEW.out, tab_fails HUL.out hlta hltb (by rw [← HJ.out a b hlta hltb]; exact eJ)])
                rw [eJ] at zJ8
                simp only [optI] at zJ8
                go_wp2_with fail
                go_ret2
                exact ⟨by rw [HBASE.out]; exact hb9, .inl ⟨HNT.out, rfl⟩⟩
              | some d1 =>
                rw [eJ] at zJ8
                simp only [optI] at zJ8
                have y1 : ¬ (d1 : Int) < 0 := by omega
                cases eM : lM a b with
                | none =>
                  have HNT : Hid (newT n ps = none) := Lib.hid (by
                    rw [HNEW.out, tab_fails HDL.out hlta hltb (by rw [← HM.out a b hlta hltb]; exact eM)]
                    cases tabA U U n <;> rfl)
                  rw [eM] at zM8
                  simp only [optI] at zM8
                  go_wp2_with fail
                  go_ret2
                  exact ⟨by rw [HBASE.out]; exact hb9, .inl ⟨HNT.out, rfl⟩⟩
                | some d2 =>
                  have HB2 : Hid (∀ y, y < b + 1 → (∃ d, lJ a y = some d) ∧ ∃ d, lM a y = some d) := Lib.hid (fun y hy => by
                    rcases Nat.lt_or_ge y b with h2 | h2
                    · exact HB.out y h2
                    · have : y = b := by omega
                      subst this; exact ⟨⟨_, eJ⟩, ⟨_, eM⟩⟩)
                  rw [eM] at zM8
                  simp only [optI] at zM8
                  have y2 : ¬ (d2 : Int) < 0 := by omega
                  clear eJ eM
                  have HS8 := Lib.hid hS8
                  clear hS8
                  go_wp2_with fail
                  go_roundw
                  case rel =>
                    refine ⟨b + 1, by omega, by go_num, HB2, HS8.out.congr (fun _ _ _ _ => rfl) (fun x y hx hy => ?_) (fun x y hx hy => ?_), hb9⟩
                    · by_cases e : x = a ∧ y = b
                      · rw [if_pos e, e.1, e.2, if_pos (Or.inr ⟨rfl, by omega⟩)]
                      · rw [if_neg e]
                        by_cases h5 : x < a ∨ (x = a ∧ y < b)
                        · rw [if_pos h5, if_pos (by omega)]
                        · rw [if_neg h5, if_neg (by omega)]
                    · by_cases e : x = a ∧ y = b
                      · rw [if_pos e, e.1, e.2, if_pos (Or.inr ⟨rfl, by omega⟩)]
                      · rw [if_neg e]
                        by_cases h5 : x < a ∨ (x = a ∧ y < b)
                        · rw [if_pos h5, if_pos (by omega)]
                        · rw [if_neg h5, if_neg (by omega)]
                  case measure => simp [intOf]; omega
            · have hbb : b = n := by omega
              subst hbb
              have HA2 : Hid (∀ x y, x < a + 1 → y < b → (∃ d, lJ x y = some d) ∧ ∃ d, lM x y = some d) := Lib.hid (fun x y hx hy => by
                rcases Nat.lt_or_ge x a with h2 | h2
                · exact HA.out x y h2 hy
                · have : x = a := by omega
                  subst this; exact HB.out y hy)
              go_wp2_with fail
              go_roundw
              case rel =>
                refine ⟨a + 1, by omega, by go_num, HA2, hS.congr (fun _ _ _ _ => rfl) (fun x y hx hy => ?_) (fun x y hx hy => ?_), hb⟩
                · by_cases h5 : x < a ∨ (x = a ∧ y < b)
                  · rw [if_pos h5, if_pos (by omega)]
                  · rw [if_neg h5, if_neg (by omega)]
                · by_cases h5 : x < a ∨ (x = a ∧ y < b)
                  · rw [if_pos h5, if_pos (by omega)]
                  · rw [if_neg h5, if_neg (by omega)]
              case measure => simp [intOf]; omega
        · have haa : a = n := by omega
          subst haa
          go_wp2_with fail
          go_meet
          exact ⟨⟨_, rfl⟩, HA, hS.congr (fun _ _ _ _ => rfl) (fun x y hx hy => by rw [if_pos hx]) (fun x y hx hy => by rw [if_pos hx]), hb⟩
  case rest =>
  obtain ⟨⟨i16, rfl⟩, HALL, hS4, hb4⟩ := hcut
  apply_assumption
  clear hS3 hb3
  generalize wc = w4 at *
  obtain ⟨TJ, hTJ⟩ : ∃ TJ, tabA U U n = some TJ := by
    have := tabA_all (set := U) (above := U) n (fun a b ha hb => by
      rw [HUL.out] at hb ⊢
      obtain ⟨⟨d, hd⟩, _⟩ := HALL.out a b ha hb
      exact ⟨d, by rw [← HJ.out a b ha hb]; exact hd⟩)
    exact this
  obtain ⟨TM, hTM⟩ : ∃ TM, tabA D D n = some TM := by
    have := tabA_all (set := D) (above := D) n (fun a b ha hb => by
      rw [HDL.out] at hb ⊢
      obtain ⟨_, d, hd⟩ := HALL.out a b ha hb
      exact ⟨d, by rw [← HM.out a b ha hb]; exact hd⟩)
    exact this
  have HNT : Hid (newT n ps = some ⟨n, U, TJ, TM⟩) := Lib.hid (by rw [HNEW.out, hTJ, hTM])
  have HOR : Hid (OrdR w4 w4.heap.size p ⟨n, U, TJ, TM⟩) := Lib.hid ⟨hS4.blk.lt, _, _, _, _, _, _, hS4.blk, hS4.L.tabB (by omega), hS4.J.tab (by omega) (tabA_len hTJ).1 (fun a b ha hb => by
      obtain ⟨row, r1, r2, r3, r4⟩ := tab_full HUL.out hTJ ha hb
      exact ⟨row, r1, r2, r3, by rw [HJ.out a b ha hb, r4]; rfl⟩), hS4.M.tab (by omega) (tabA_len hTM).1 (fun a b ha hb => by
      obtain ⟨row, r1, r2, r3, r4⟩ := tab_full HDL.out hTM ha hb
      exact ⟨row, r1, r2, r3, by rw [HM.out a b ha hb, r4]; rfl⟩)⟩
  clear hTJ hTM hS4
  go_wp2_with fail
  go_ret2
  exact ⟨by rw [HBASE.out]; exact hb4, .inr ⟨p, ⟨n, U, TJ, TM⟩, HNT.out, rfl, HOR.out⟩⟩
end Go.Proofs.YtgdnphmannbpgaaGreatDoor
