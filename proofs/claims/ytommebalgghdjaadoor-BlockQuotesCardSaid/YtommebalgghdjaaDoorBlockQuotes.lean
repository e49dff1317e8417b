/-
  bowdlerlaw9.BlockQuotes: its walk: it answers true, and turns nothing that was there.
-/
import Derived.Test.YtommebalgghdjaaDoorBlockStart
import Derived.Test.YtommebalgghdjaaDoorBlockQuoteLaw
namespace Go.Proofs.YtommebalgghdjaaDoor
open Go.RowKit

def quotedS (x : ByteArray) : ByteArray := ⟨#[62, 32]⟩ ++ x
theorem quotedS_L (x : ByteArray) : L (quotedS x) = quoted (L x) := by unfold quotedS quoted; rw [L_append]; rfl
theorem quotes_bs {l : List ByteArray} (hn : l ≠ []) (h : Low9 (parseT (l.map L))) : parseT ((l.map quotedS).map L) = ⟨3, 0, 0, false, [], []⟩ :: (parseT (l.map L)).map sh := by
  have := quotes_law (l := l.map L) (by simpa using hn) h
  rw [List.map_map] at this ⊢
  have e : (L ∘ quotedS) = (quoted ∘ L) := funext quotedS_L
  rw [e, this]
theorem take_snocQ {α : Type} {l : List α} {k : Nat} {x : α} (hx : l[k]? = some x) : l.take (k + 1) = l.take k ++ [x] := by
  rw [List.take_add_one, hx]; rfl

set_option maxHeartbeats 4000000 in
set_option maxRecDepth 100000 in
theorem blockQuotes_walk (A : Option Addr) (n cap : Nat) (l : List ByteArray) (w : World) (_ : Glb w) (hl : IsTexts w A n cap l) :
    Calls Tryd.prog 4 #[.slice A n cap] w fun e w' => e = .returned (.bool true) ∧ Below w.heap.size w w' := by
  obtain ⟨hr, hnc, hcm, hz⟩ := hl
  have hmax : maxLen = 9223372036854775807 := rfl
  have hln : l.length = n := by have := hr.1; simpa using this
  have HPL := Lib.hid (plain_any A n cap w.heap.size l w hr (by omega) (fun x hx => by have := hz x hx; omega))
  cases hpt : plainT l
  · rw [hpt] at HPL
    go_enter Tryd.func4, Tryd.ntmps4
    go_wp2_with (first | (go_at_call 15; refine HPL.out.mono ?_; rintro e w0 ⟨rfl, hw0⟩; subst w0) | (go_at_call 16; refine (aliveB_any _).mono ?_; rintro e w1 ⟨rfl, b1⟩))
    go_ret
    exact ⟨rfl, b1⟩
  rw [hpt] at HPL
  obtain ⟨h40, hsz⟩ := plain_facts hpt
  by_cases hn0 : n = 0
  · subst hn0
    clear hln
    go_enter Tryd.func4, Tryd.ntmps4
    go_wp2_with (first | (go_at_call 15; refine HPL.out.mono ?_; rintro e w0 ⟨rfl, hw0⟩; subst w0) | (go_at_call 16; refine (aliveB_any _).mono ?_; rintro e w1 ⟨rfl, b1⟩))
    go_ret
    exact ⟨rfl, b1⟩
  have hn40 : n ≤ 40 := by omega
  have HLN := Lib.hid hln
  have HSZ := Lib.hid hsz
  have q0 : ((n : Int) == 0) = false := by simp; omega
  clear hln hsz h40 hz
  go_enter Tryd.func4, Tryd.ntmps4
  go_wp2_with (first | (go_at_call 15; refine HPL.out.mono ?_; rintro e w0 ⟨rfl, hw0⟩; subst w0) | (go_at_call 16; refine (aliveB_any _).mono ?_; rintro e w1 ⟨rfl, b1⟩))
  clear HPL q0
  go_loopw [3, 26] (fun s3 s26 wr => ∃ (k : Nat) (A3 : Option Addr) (c3 : Nat), k ≤ n ∧ s26 = .int .i64 k ∧ s3 = .slice A3 k c3 ∧ Own wr w.heap.size 9 1 A3 k c3 (txCells ((l.take k).map quotedS)) ∧ Below w.heap.size w wr) (fun _ s26 _ => n - (intOf s26).toNat)
  case atStart => exact ⟨0, none, 0, Nat.zero_le _, rfl, rfl, Own.nil _ _ _ _, b1⟩
  case round =>
    clear b1
    obtain ⟨k, A3, c3, hk, rfl, rfl, hown, hb⟩ := hrel
    have hzw := hb.size
    by_cases hlt : k < n
    · obtain ⟨ad, u, rfl, _, hx0, hc⟩ := (hr.below hb).at_ hlt
      obtain ⟨x, hx, rfl⟩ : ∃ x, l[k]? = some x ∧ Value.string x = u := by simpa using hx0
      have hxz := HSZ.out x (List.mem_of_getElem? hx)
      have HX := Lib.hid hx
      clear hx hx0
      have r1 : ¬ 9223372036854775807 < (⟨#[62, 32]⟩ : ByteArray).size + x.size := by have : (⟨#[62, 32]⟩ : ByteArray).size = 2 := rfl; omega
      go_wp2_with (at_builtin; refine wpList_app1 Tryd.elTexts rfl (.tmp 30) (.tmp 33) rfl rfl (by exact hown.alloc _) rfl (Blk.new' _ _ _ _ (by simp)) rfl (by simp [Value.oneCell']) (by simp only [maxLen]; omega) (by omega) (by simp; omega) ?_
                   intro A4 c4 w5 hown4 ho4 hm4)
      go_roundw
      case rel =>
        refine ⟨k + 1, A4, c4, by omega, by go_num, by rfl, ?_, hb.trans (ho4.of_alloc.below (fun a ha => (hown.lt ha).1) hzw)⟩
        rw [take_snocQ HX.out, List.map_append]
        simpa [txCells, quotedS] using hown4
      case measure => simp [intOf]; omega
    · have hkn : k = n := by omega
      subst hkn
      have hta : l.take k = l := List.take_of_length_le (by rw [HLN.out]; exact Nat.le_refl _)
      rw [hta] at hown
      clear hta
      have hp1 := parse_any w.heap.size l A k cap wr (hr.below hb) hzw (lnOk_of fun x hx => by have := HSZ.out x hx; omega) (by omega) hnc
      have hlow : Low9 (parseT (l.map L)) → parseT ((l.map quotedS).map L) = ⟨3, 0, 0, false, [], []⟩ :: (parseT (l.map L)).map sh := quotes_bs (fun h => by have := HLN.out; rw [h] at this; simp at this; omega)
      have hdep : ∀ b ∈ parseT (l.map L), (0 : Int) ≤ b.depth := allT_depth 14 0 (l.map L)
      have hle : (parseT (l.map L)).length ≤ 1120 := by have := parse_len (l.map L); rw [List.length_map, HLN.out] at this; omega
      have hp2 := fun W (hW : Below wr.heap.size wr W) => parse_any W.heap.size (l.map quotedS) A3 k c3 W ((hown.below hW (Nat.le_refl _)).reads) (Nat.le_refl _) (lnOk_of (by
        intro y hy
        obtain ⟨x, hx, rfl⟩ := List.mem_map.1 hy
        have := HSZ.out x hx
        unfold quotedS
        rw [ByteArray.size_append]
        have : (⟨#[62, 32]⟩ : ByteArray).size = 2 := rfl
        omega)) (by omega) hown.cap
      have HP1 := Lib.hid hp1
      have HP2 := Lib.hid hp2
      have HLOW := Lib.hid hlow
      have HDEP := Lib.hid hdep
      clear hp1 hp2 hlow hdep hown
      generalize parseT (l.map L) = aa at *
      generalize parseT ((l.map quotedS).map L) = bs at *
      go_upto_region 10 with (first
        | (go_at_call_of 17 (Value.slice A k cap); refine HP1.out.mono ?_; rintro e w3 ⟨Ao, m, co, rfl, hm, hO, b3⟩)
        | (go_at_call 17; refine (HP2.out _ b3).mono ?_; rintro e w4 ⟨Ap, m2, cp, rfl, hm2, hO2, b4⟩))
      have hb3 := hb.trans (b3.mono hzw)
      have hz3 := hb3.size
      have hb4 := hb3.trans (b4.mono hz3)
      have hOa := hO.below b4 (Nat.le_refl _)
      have hz4 := hb4.size
      have HM := Lib.hid hm
      have HM2 := Lib.hid hm2
      have hm1120 : m ≤ 1120 := by omega
      clear hO b3 b4 hb3 hz3 hm hm2 HP1 HP2 hb hle
      go_wp2_with fail
      go_loop [42] (fun s => ∃ q : Nat, q ≤ m ∧ s = .int .i64 q ∧ ∀ b ∈ aa.take q, b.depth ≤ 9) (fun s => m - (intOf s).toNat)
      case atStart => exact ⟨0, Nat.zero_le _, rfl, by simp⟩
      case round =>
        obtain ⟨q, hq, rfl, hall⟩ := hrel
        have HALL := Lib.hid hall
        clear hall
        by_cases hqm : q < m
        · obtain ⟨x, hx⟩ : ∃ x, aa[q]? = some x := ⟨_, List.getElem?_eq_getElem (by rw [HM.out]; exact hqm)⟩
          obtain ⟨ad, rfl, _, _, c1, _, _, _, _⟩ := hOa.reads.blk hx hqm
          have HX := Lib.hid hx
          clear hx
          by_cases hd : 10 ≤ x.depth
          · have q1 : decide ((10 : Int) ≤ x.depth) = true := decide_eq_true hd
            clear hOa hO2
            go_wp2_with fail
            go_ret
            exact ⟨rfl, hb4⟩
          · have q1 : decide ((10 : Int) ≤ x.depth) = false := decide_eq_false hd
            have HT : Hid (∀ b ∈ aa.take (q + 1), b.depth ≤ 9) := Lib.hid (by
              rw [take_snocQ HX.out]
              intro b hb'
              rcases List.mem_append.1 hb' with h | h
              · exact HALL.out b h
              · rw [List.mem_singleton.1 h]; omega)
            clear hOa hO2
            go_wp2_with fail
            go_round
            case rel => exact ⟨q + 1, by omega, by go_num, HT.out⟩
            case measure => simp [intOf]; omega
        · have hlow : Low9 aa := by
            have := HALL.out
            rwa [List.take_of_length_le (by rw [HM.out]; omega)] at this
          have hbs := HLOW.out hlow
          have HLOWA := Lib.hid hlow
          subst hbs
          have hmm : m2 = m + 1 := by rw [← HM2.out, List.length_cons, List.length_map, HM.out]
          subst hmm
          clear HALL HLOW hlow
          obtain ⟨g, rfl, _, _⟩ := hO2.some_ (by omega)
          have k0 := hO2.cell (j := 0) rfl
          have k1 := hO2.cell (j := 1) rfl
          have k2 := hO2.cell (j := 2) rfl
          have k3 := hO2.cell (j := 3) rfl
          have k4 : w4.cell? ⟨g, 4, none⟩ = some (.string ⟨#[]⟩) := hO2.cell (j := 4) rfl
          have k5 : w4.cell? ⟨g, 5, none⟩ = some (.string ⟨#[]⟩) := hO2.cell (j := 5) rfl
          have x1 : IntKind.wrap .i64 ((m : Int) + 1) = (m : Int) + 1 := IntWalk.i64_in _ (by omega)
          have hRA := Lib.hid hOa
          have hRB := Lib.hid hO2
          clear hOa hO2
          go_wp2_with fail
          clear k0 k1 k2 k3 k4 k5
          go_loopw [67] (fun s wr2 => ∃ q : Nat, q ≤ m ∧ s = .int .i64 q ∧ Below w4.heap.size w4 wr2) (fun s _ => m - (intOf s).toNat)
          case atStart => exact ⟨0, Nat.zero_le _, rfl, Below.refl _ _⟩
          case round =>
            obtain ⟨q, hq, rfl, bq⟩ := hrel
            have hzq := bq.size
            by_cases hqm : q < m
            · obtain ⟨x, hx⟩ : ∃ x, aa[q]? = some x := ⟨_, List.getElem?_eq_getElem (by rw [HM.out]; exact hqm)⟩
              have hd9 := HLOWA.out x (List.mem_of_getElem? hx)
              have hd0 := HDEP.out x (List.mem_of_getElem? hx)
              obtain ⟨ad, hada, hadl, c0, c1, c2, c3, c4, c5⟩ := (hRA.out.below bq (Nat.le_refl _)).reads.blk hx hqm
              subst hada
              obtain ⟨q1, hq1⟩ : ∃ q1 : Nat, q + 1 = q1 := ⟨_, rfl⟩
              have hy : ((⟨3, 0, 0, false, [], []⟩ : BlockT) :: aa.map sh)[q1]? = some (sh x) := by
                rw [← hq1, List.getElem?_cons_succ, List.getElem?_map, hx]; rfl
              obtain ⟨ad', had', hadl', d0, d1, d2, d3, d4, d5⟩ := (hRB.out.below bq (Nat.le_refl _)).reads.blk hy (by omega)
              have had'' := Option.some.inj had'
              subst had''
              have hab : (⟨g, 0, none⟩ : Addr).add (q1 * 6) = ⟨g, q1 * 6, none⟩ := by
                unfold Addr.add
                split
                · rename_i h; rw [h]
                · simp
              rw [hab] at d0 d1 d2 d3 d4 d5
              simp only at d0 d1 d2 d3 d4 d5
              clear hab hadl'
              have y1 : IntKind.wrap .i64 ((q : Int) + 1) = (q1 : Int) := by rw [IntWalk.i64_in _ (by omega)]; omega
              have y3 : (0 : Int) ≤ (q1 : Int) := by omega
              have y4 : ((q1 : Int)).toNat = q1 := by omega
              have y5 : (q1 : Int) < ((m + 1 : Nat) : Int) := by omega
              have y6 : (q1 : Int) < (m : Int) + 1 := by omega
              have HQ1 := Lib.hid hq1
              clear hx hy had' hq1
              obtain ⟨xk, xd, xn, xt, xs, xi⟩ := x
              unfold sh at d0 d1 d2 d3 d4 d5
              simp only at c0 c1 c2 c3 c4 c5 d0 d1 d2 d3 d4 d5 hd9 hd0
              have y7 : IntKind.wrap .i64 (xd + 1) = xd + 1 := IntWalk.i64_in _ (by omega)
              generalize S xs = TX at *
              generalize S xi = TI at *
              have bW := bq.alloc hzq (.cells #[.int .i64 xk, .int .i64 (xd + 1), .int .i64 xn, .bool xt, .string TX, .string TI] 28)
              have BX : Blk (wr.alloc (.cells #[.int .i64 xk, .int .i64 xd, .int .i64 xn, .bool xt, .string TX, .string TI] 28)) wr.heap.size 28 #[.int .i64 xk, .int .i64 xd, .int .i64 xn, .bool xt, .string TX, .string TI] := Blk.new _ _ _
              have x1 : (wr.alloc (.cells #[.int .i64 xk, .int .i64 xd, .int .i64 xn, .bool xt, .string TX, .string TI] 28)).cell? ⟨wr.heap.size, 0 + 1, none⟩ = some (.int .i64 xd) := BX.cell 1
              have f1 : (wr.alloc (.cells #[.int .i64 xk, .int .i64 xd, .int .i64 xn, .bool xt, .string TX, .string TI] 28)).frozen? ⟨wr.heap.size, 0 + 1, none⟩ = false := BX.frozen 1
              have BY : Blk (wr.alloc (.cells #[.int .i64 xk, .int .i64 (xd + 1), .int .i64 xn, .bool xt, .string TX, .string TI] 28)) wr.heap.size 28 #[.int .i64 xk, .int .i64 (xd + 1), .int .i64 xn, .bool xt, .string TX, .string TI] := Blk.new _ _ _
              have hAA : ∀ p v, wr.cell? p = some v → (wr.alloc (.cells #[.int .i64 xk, .int .i64 (xd + 1), .int .i64 xn, .bool xt, .string TX, .string TI] 28)).cell? p = some v := fun p v h => by
                rw [← h]
                exact ((Below.refl wr.heap.size wr).alloc (Nat.le_refl _) _).cell (World.block_lt_of_cell? wr _ h)
              have e0 := hAA _ _ d0
              have e1 := hAA _ _ d1
              have e2 := hAA _ _ d2
              have e3 := hAA _ _ d3
              have e4 := hAA _ _ d4
              have e5 := hAA _ _ d5
              go_upto_region 23 with fail
              clear x1 f1 BX hAA c0 c1 c2 c3 c4 c5 d0 d1 d2 d3 d4 d5
              have g0 := BY.cell 0
              have g1 := BY.cell 1
              have g2 := BY.cell 2
              have g3 := BY.cell 3
              have g4 := BY.cell 4
              have g5 := BY.cell 5
              generalize wr.alloc (.cells #[.int .i64 xk, .int .i64 (xd + 1), .int .i64 xn, .bool xt, .string TX, .string TI] 28) = W at *
              go_quiet (fail)
              have bW2 := below_drewN' bW nq
              generalize W.drewN nq = W2 at *
              clear e0 e1 e2 e3 e4 e5 g0 g1 g2 g3 g4 g5 BY
              go_wp2_with fail
              go_roundw
              case rel => exact ⟨q + 1, by have := HQ1.out; omega, by have := HQ1.out; go_num, bW2⟩
              case measure => have := HQ1.out; simp [intOf]; omega
            · go_wp2_with fail
              go_ret
              exact ⟨rfl, hb4.trans (bq.mono hz4)⟩
end Go.Proofs.YtommebalgghdjaaDoor
