/-
  block: what Right answers, as plain Lean, and its contract.
-/
import Derived.Test.YtommebalgghdjaaDoorBlockHolds
namespace Go.Proofs.YtommebalgghdjaaDoor
open Go.RowKit
set_option linter.unusedVariables false

def aboveT : Option BlockT → Int
  | none => 0
  | some y => if holdsT y then y.depth + 1 else y.depth
def badT (pv : Option BlockT) (x : BlockT) : Bool :=
  decide (x.depth < 0) || decide (aboveT pv < x.depth) || decide (x.kind < 1) || decide (9 < x.kind) || (x.kind == 2 && (decide (x.n < 1) || decide (6 < x.n)))
def opT (op : List BlockT) (x : BlockT) : List BlockT := op.take x.depth.toNat ++ [x]
def inListT (op : List BlockT) (x : BlockT) : Bool := decide (0 < x.depth) && (match (opT op x)[x.depth.toNat - 1]? with | some y => y.kind == 4 | none => false)
def emptyT (x : BlockT) (t : List BlockT) : Bool := x.kind == 4 && (match t with | [] => true | y :: _ => y.depth != x.depth + 1)
def rightGo : Option BlockT → List BlockT → List BlockT → Bool
  | _, _, [] => true
  | pv, op, x :: t => if badT pv x then false else if inListT op x != (x.kind == 5) then false else if emptyT x t then false else rightGo (some x) (opT op x) t
def rightB (l : List BlockT) : Bool := rightGo none [] l

theorem Reads.blk {w : World} {B n : Nat} {A : Option Addr} {bs : List BlockT} (h : Reads w B 6 A n (blkCells bs)) {k : Nat} {b : BlockT} (hb : bs[k]? = some b) (hk : k < n) :
    ∃ ad, A = some ad ∧ ad.block < B ∧ w.cell? (ad.add (k * 6)) = some (.int .i64 b.kind) ∧ w.cell? ⟨(ad.add (k * 6)).block, (ad.add (k * 6)).off + 1, none⟩ = some (.int .i64 b.depth) ∧ w.cell? ⟨(ad.add (k * 6)).block, (ad.add (k * 6)).off + 2, none⟩ = some (.int .i64 b.n) ∧
      w.cell? ⟨(ad.add (k * 6)).block, (ad.add (k * 6)).off + 3, none⟩ = some (.bool b.tight) ∧ w.cell? ⟨(ad.add (k * 6)).block, (ad.add (k * 6)).off + 4, none⟩ = some (.string (S b.text)) ∧ w.cell? ⟨(ad.add (k * 6)).block, (ad.add (k * 6)).off + 5, none⟩ = some (.string (S b.info)) := by
  obtain ⟨ad, e, hbl, h0, hj⟩ := h.elem hk
  have g := fun j (hj : j < 6) => flat_get BlockT.cells 6 blk_len bs k j hj hb
  exact ⟨ad, e, hbl, h0 _ ((g 0 (by omega)).trans rfl), hj 1 _ (by omega) ((g 1 (by omega)).trans rfl), hj 2 _ (by omega) ((g 2 (by omega)).trans rfl), hj 3 _ (by omega) ((g 3 (by omega)).trans rfl), hj 4 _ (by omega) ((g 4 (by omega)).trans rfl), hj 5 _ (by omega) ((g 5 (by omega)).trans rfl)⟩
theorem blks_reads_len {w : World} {B n : Nat} {A : Option Addr} {bs : List BlockT} (h : Reads w B 6 A n (blkCells bs)) : bs.length = n := by have := h.1; rw [blks_length] at this; omega
theorem flat_take {α : Type} (f : α → List Value) (sz : Nat) (hf : ∀ x, (f x).length = sz) (l : List α) (k : Nat) : (l.flatMap f).take (k * sz) = (l.take k).flatMap f := by
  induction l generalizing k with
  | nil => simp
  | cons y l ih =>
    rcases k with _ | k
    · simp
    · rw [List.flatMap_cons, show (k + 1) * sz = (f y).length + k * sz by rw [hf, Nat.add_mul, Nat.one_mul, Nat.add_comm], List.take_append, Nat.add_sub_cancel_left, ih, List.take_succ_cons, List.flatMap_cons, List.take_of_length_le (Nat.le_add_right _ _)]
theorem drop_some {α : Type} {l : List α} {k : Nat} {x : α} (h : l[k]? = some x) : l.drop k = x :: l.drop (k + 1) := by
  obtain ⟨hk, e⟩ := List.getElem?_eq_some_iff.1 h
  rw [List.drop_eq_getElem_cons hk, e]

set_option maxHeartbeats 20000000 in
set_option maxRecDepth 100000 in
theorem right_any (A : Option Addr) (n c K : Nat) (bs : List BlockT) (w : World) (hr : Reads w K 6 A n (blkCells bs)) (hn : n ≤ 1099511627776) (hK : K ≤ w.heap.size) :
    Calls Tryd.prog 18 #[.slice A n c] w fun e w' => e = .returned (.bool (rightB bs)) ∧ Below w.heap.size w w' := by
  have HL := Lib.hid (blks_reads_len hr)
  obtain ⟨V, hV⟩ : ∃ V, rightB bs = V := ⟨_, rfl⟩
  rw [hV]
  have HV := Lib.hid hV
  clear hV
  go_enter Tryd.func18, Tryd.ntmps18
  go_wp2_with fail
  go_loopw [3, 10] (fun s3 s10 wr => ∃ (k : Nat) (pv : Option BlockT) (op : List BlockT) (A3 : Option Addr) (m c3 : Nat), k ≤ n ∧ s10 = .int .i64 k ∧ s3 = .slice A3 m c3 ∧ op.length = m ∧ m ≤ k ∧ (k = 0 → pv = none) ∧
    (∀ j, k = j + 1 → ∃ y, bs[j]? = some y ∧ pv = some y ∧ y.depth + 1 = (m : Int)) ∧ rightGo pv op (bs.drop k) = V ∧ Own wr w.heap.size 28 6 A3 m c3 (blkCells op) ∧ Below w.heap.size w wr) (fun _ s10 _ => n - (intOf s10).toNat)
  case atStart => exact ⟨0, none, [], none, 0, 0, Nat.zero_le _, rfl, rfl, rfl, Nat.le_refl _, fun _ => rfl, fun j hj => by omega, HV.out, Own.nil _ _ _ _, Below.refl _ _⟩
  case round =>
    obtain ⟨k, pv, op, A3, m, c3, hk, rfl, rfl, hopl, hmk, hpv0, hpv1, hgo, hown, hb⟩ := hrel
    have hzw := hb.size
    have HOPL := Lib.hid hopl
    have HP0 := Lib.hid hpv0
    have HP1 := Lib.hid hpv1
    have HGO := Lib.hid hgo
    clear hopl hpv0 hpv1 hgo
    by_cases hlt : k < n
    · obtain ⟨x, hx⟩ : ∃ x, bs[k]? = some x := ⟨_, List.getElem?_eq_getElem (by rw [HL.out]; exact hlt)⟩
      have hbK := hb.mono hK
      have hrw := hr.below hbK
      obtain ⟨ad, rfl, had, c0, c1, c2, c3', c4, c5⟩ := hrw.blk hx hlt
      have HX := Lib.hid hx
      have hgo := HGO.out
      rw [drop_some hx] at hgo
      unfold rightGo at hgo
      have HG := Lib.hid hgo
      clear hgo hx
      obtain ⟨xk, xd, xn, xt, xs, xi⟩ := x
      simp only at c0 c1 c2 c3' c4 c5
      obtain ⟨TX, hTX⟩ : ∃ TX, S xs = TX := ⟨_, rfl⟩
      obtain ⟨TI, hTI⟩ : ∃ TI, S xi = TI := ⟨_, rfl⟩
      rw [hTX] at c4
      rw [hTI] at c5
      have HTX := Lib.hid hTX
      have HTI := Lib.hid hTI
      clear hTX hTI
      go_upto_region 5 with fail
      have hbW := hb.alloc hzw (.cells #[.int .i64 xk, .int .i64 xd, .int .i64 xn, .bool xt, .string TX, .string TI] 28)
      have hownW := hown.alloc (.cells #[.int .i64 xk, .int .i64 xd, .int .i64 xn, .bool xt, .string TX, .string TI] 28)
      have B0 : Blk (wr.alloc (.cells #[.int .i64 xk, .int .i64 xd, .int .i64 xn, .bool xt, .string TX, .string TI] 28)) wr.heap.size 28 #[.int .i64 xk, .int .i64 xd, .int .i64 xn, .bool xt, .string TX, .string TI] := Blk.new _ _ _
      obtain ⟨g, hg⟩ : ∃ g, wr.heap.size = g := ⟨_, rfl⟩
      rw [hg] at B0
      simp only [hg]
      have hgb : w.heap.size ≤ g := by omega
      have HAG : Hid (∀ a, A3 = some a → a.block < g) := Lib.hid fun a ha => by have := (hown.lt ha).2; omega
      clear hb hown hbK hrw c0 c1 c2 c3' c4 c5
      generalize wr.alloc (.cells #[.int .i64 xk, .int .i64 xd, .int .i64 xn, .bool xt, .string TX, .string TI] 28) = W at *
      have hzW := hbW.size
      have hgW := B0.lt
      obtain ⟨ab, hab⟩ : ∃ ab, aboveT pv = ab := ⟨_, rfl⟩
      have HAB := Lib.hid hab
      have habm : ab ≤ (m : Int) := by
        rw [← hab]
        rcases Nat.eq_zero_or_pos k with hk0 | hpos
        · rw [HP0.out hk0]; show (0 : Int) ≤ (m : Int); omega
        · obtain ⟨y, _, hy, hyd⟩ := HP1.out (k - 1) (by omega)
          rw [hy]; show (if holdsT y then y.depth + 1 else y.depth) ≤ (m : Int); split <;> omega
      clear hab
      go_cut [6] (fun s6 wx => s6 = .int .i64 0 ∧ wx = W)
      case first =>
        go_wp2_with fail
        go_meet
        exact ⟨rfl, rfl⟩
      case rest =>
      obtain ⟨rfl, hwW⟩ := hcut
      rw [hwW]
      clear hwW
      apply_assumption
      refine wp_seq_k fun K1 hK1 => ?_
      go_cut [6] (fun s6 wx => s6 = .int .i64 ab ∧ ∃ w6, wx = w6 ∧ Below W.heap.size W w6)
      case first =>
        rcases Nat.eq_zero_or_pos k with hk0 | hpos
        · subst hk0
          have h0 : ab = 0 := by rw [← HAB.out, HP0.out rfl]; rfl
          subst h0
          go_wp2_with fail
          go_meet
          exact ⟨rfl, _, rfl, Below.refl _ _⟩
        · obtain ⟨j, hj⟩ : ∃ j, k = j + 1 := ⟨k - 1, by omega⟩
          obtain ⟨y, hy, hpy, hyd⟩ := HP1.out j hj
          obtain ⟨ad', had', _, f0, f1, f2, f3, f4, f5⟩ := (hr.below (hbW.mono hK)).blk hy (by omega)
          have had'' : ad = ad' := Option.some.inj had'
          subst had''
          have hcq : ab = if holdsT y then y.depth + 1 else y.depth := by rw [← HAB.out, hpy]; rfl
          have hho := fun W1 => holds_any y W1
          obtain ⟨ho, hhoe⟩ : ∃ ho, holdsT y = ho := ⟨_, rfl⟩
          rw [hhoe] at hho hcq
          unfold BlockT.val at hho
          obtain ⟨yk, yd, yn, yt, ys, yi⟩ := y
          simp only at f0 f1 f2 f3 f4 f5 hho hcq hyd
          generalize S ys = YS at *
          generalize S yi = YI at *
          have HHO := Lib.hid hho
          have x1 : IntKind.wrap .i64 ((k : Int) - 1) = (k : Int) - 1 := IntWalk.i64_in _ (by omega)
          have x2 : (0 : Int) ≤ (k : Int) - 1 := by omega
          have x3 : ((k : Int) - 1).toNat = j := by omega
          have x4 : (k : Int) - 1 < (n : Int) := by omega
          have x7 : decide ((0 : Int) < (k : Int)) = true := decide_eq_true (by omega)
          have x8 : IntKind.wrap .i64 (yd + 1) = yd + 1 := IntWalk.i64_in _ (by omega)
          clear hj hy hpy had' hhoe hho
          have HCQ := Lib.hid hcq
          clear hcq
          cases ho
          all_goals
            go_wp2_with (go_at_call 24; refine (HHO.out _).mono ?_; rintro e w1 ⟨rfl, b1⟩)
            go_meet
            exact ⟨by rw [HCQ.out]; first | rfl | simp [hyd], _, rfl, b1⟩
      case rest =>
        obtain ⟨rfl, w6, hw0, b6⟩ := hcut
        rw [hw0]
        clear hw0
        have B6 := B0.below b6 hgW
        have hb6 := hbW.trans (b6.mono hzW)
        have hown6 := hownW.below b6 (Nat.le_refl _)
        have hz6 := hb6.size
        clear hbW hownW B0 b6
        have HAGW := HAG
        apply_assumption
        refine wp_seq_k fun K2 hK2 => ?_
        obtain ⟨bad, hbad⟩ : ∃ bad, badT pv ⟨xk, xd, xn, xt, xs, xi⟩ = bad := ⟨_, rfl⟩
        have HBAD := Lib.hid hbad
        clear hbad
        go_cut [64] (fun s64 wx => s64 = .bool false ∧ wx = w6 ∧ bad = false)
        case first =>
          have d0 : w6.cell? ⟨g, 0, none⟩ = some (.int .i64 xk) := B6.cell 0
          have d1 : w6.cell? ⟨g, 0 + 1, none⟩ = some (.int .i64 xd) := B6.cell 1
          have d2 : w6.cell? ⟨g, 0 + 2, none⟩ = some (.int .i64 xn) := B6.cell 2
          obtain ⟨p1, q1⟩ : ∃ p, decide (xd < 0) = p := ⟨_, rfl⟩
          obtain ⟨p2, q2⟩ : ∃ p, decide (ab < xd) = p := ⟨_, rfl⟩
          obtain ⟨p3, q3⟩ : ∃ p, decide (xk < 1) = p := ⟨_, rfl⟩
          obtain ⟨p4, q4⟩ : ∃ p, decide (9 < xk) = p := ⟨_, rfl⟩
          obtain ⟨p5, q5⟩ : ∃ p, (xk == 2) = p := ⟨_, rfl⟩
          obtain ⟨p6, q6⟩ : ∃ p, decide (xn < 1) = p := ⟨_, rfl⟩
          obtain ⟨p7, q7⟩ : ∃ p, decide (6 < xn) = p := ⟨_, rfl⟩
          have HBV : Hid (bad = (p1 || p2 || p3 || p4 || (p5 && (p6 || p7)))) := Lib.hid (by
            rw [← HBAD.out]; unfold badT; rw [HAB.out, q1, q2, q3, q4, q5, q6, q7])
          cases p1
          case true =>
            have hbv : bad = true := by rw [HBV.out]; rfl
            have HVF : Hid (V = false) := Lib.hid (by have := HG.out; rw [HBAD.out, hbv] at this; simpa using this.symm)
            clear hbv
            go_wp2_with fail
            go_ret
            rw [HVF.out]
            exact ⟨rfl, hb6⟩
          case false =>
            cases p2
            case true =>
              have hbv : bad = true := by rw [HBV.out]; rfl
              have HVF : Hid (V = false) := Lib.hid (by have := HG.out; rw [HBAD.out, hbv] at this; simpa using this.symm)
              clear hbv
              go_wp2_with fail
              go_ret
              rw [HVF.out]
              exact ⟨rfl, hb6⟩
            case false =>
              cases p3
              case true =>
                have hbv : bad = true := by rw [HBV.out]; rfl
                have HVF : Hid (V = false) := Lib.hid (by have := HG.out; rw [HBAD.out, hbv] at this; simpa using this.symm)
                clear hbv
                go_wp2_with fail
                go_ret
                rw [HVF.out]
                exact ⟨rfl, hb6⟩
              case false =>
                cases p4
                case true =>
                  have hbv : bad = true := by rw [HBV.out]; rfl
                  have HVF : Hid (V = false) := Lib.hid (by have := HG.out; rw [HBAD.out, hbv] at this; simpa using this.symm)
                  clear hbv
                  go_wp2_with fail
                  go_ret
                  rw [HVF.out]
                  exact ⟨rfl, hb6⟩
                case false =>
                  cases p5
                  case false =>
                    go_wp2_with fail
                    go_meet
                    exact ⟨rfl, rfl, by rw [HBV.out]; rfl⟩
                  case true =>
                    cases p6
                    case true =>
                      have hbv : bad = true := by rw [HBV.out]; rfl
                      have HVF : Hid (V = false) := Lib.hid (by have := HG.out; rw [HBAD.out, hbv] at this; simpa using this.symm)
                      clear hbv
                      go_wp2_with fail
                      go_ret
                      rw [HVF.out]
                      exact ⟨rfl, hb6⟩
                    case false =>
                      cases p7
                      case true =>
                        have hbv : bad = true := by rw [HBV.out]; rfl
                        have HVF : Hid (V = false) := Lib.hid (by have := HG.out; rw [HBAD.out, hbv] at this; simpa using this.symm)
                        clear hbv
                        go_wp2_with fail
                        go_ret
                        rw [HVF.out]
                        exact ⟨rfl, hb6⟩
                      case false =>
                        go_wp2_with fail
                        go_meet
                        exact ⟨rfl, rfl, by rw [HBV.out]; rfl⟩
        case rest =>
        obtain ⟨rfl, hw6, hbf⟩ := hcut
        rw [hw6]
        clear hw6
        apply_assumption
        have hdb : 0 ≤ xd ∧ xd ≤ ab := by
          have h1 := HBAD.out
          rw [hbf] at h1
          unfold badT at h1
          simp only [Bool.or_eq_false_iff, decide_eq_false_iff_not] at h1
          rw [HAB.out] at h1
          have := h1.1.1.1.1
          have := h1.1.1.1.2
          omega
        have HBF := Lib.hid hbf
        clear hbf
        obtain ⟨dn, rfl⟩ : ∃ dn : Nat, xd = dn := ⟨xd.toNat, by omega⟩
        have hdn : dn ≤ m := by omega
        have hownD : Own w6 w.heap.size 28 6 A3 dn c3 (blkCells (op.take dn)) := by
          have := hown6.take (m := dn) hdn
          rwa [show (blkCells op).take (dn * 6) = blkCells (op.take dn) from flat_take _ 6 blk_len op dn] at this
        have hcap : dn ≤ c3 := hownD.cap
        have q1 : (0 : Int) ≤ (dn : Int) := by omega
        have q2 : ((dn : Int)).toNat = dn := by omega
        have q3 : (dn : Int) ≤ (c3 : Int) := by omega
        have hgW6 := B6.lt
        have e0 : w6.cell? ⟨g, 0, none⟩ = some (.int .i64 xk) := B6.cell 0
        have e1 : w6.cell? ⟨g, 0 + 1, none⟩ = some (.int .i64 dn) := B6.cell 1
        have e2 : w6.cell? ⟨g, 0 + 2, none⟩ = some (.int .i64 xn) := B6.cell 2
        have e3 : w6.cell? ⟨g, 0 + 3, none⟩ = some (.bool xt) := B6.cell 3
        have e4 : w6.cell? ⟨g, 0 + 4, none⟩ = some (.string TX) := B6.cell 4
        have e5 : w6.cell? ⟨g, 0 + 5, none⟩ = some (.string TI) := B6.cell 5
        go_upto_region 12 with fail
        have hsW : w6.heap.size ≤ w6.heap.size := Nat.le_refl _
        have hS : ∀ w3, Only (w6.alloc (.cells #[.int .i64 xk, .int .i64 dn, .int .i64 xn, .bool xt, .string TX, .string TI] 28)) w3 A3 → Blk w3 g 28 #[.int .i64 xk, .int .i64 dn, .int .i64 xn, .bool xt, .string TX, .string TI] := fun w3 ho =>
          (B6.alloc _).only ho (fun a ha => by have := HAG.out a ha; omega)
        go_region_held3 (fun w' => w'.cell? ⟨g, 0, none⟩ = some (.int .i64 xk) ∧ w'.cell? ⟨g, 0 + 1, none⟩ = some (.int .i64 dn) ∧ w'.cell? ⟨g, 0 + 2, none⟩ = some (.int .i64 xn) ∧ w'.cell? ⟨g, 0 + 3, none⟩ = some (.bool xt) ∧ w'.cell? ⟨g, 0 + 4, none⟩ = some (.string TX) ∧ w'.cell? ⟨g, 0 + 5, none⟩ = some (.string TI)) (go_keep)
          ((refine step_app1 Tryd.elBlocks (by rfl) (.tmp 68) (.tmp 70) (by rfl) (by rfl) (by exact Own.drew (hownD.alloc _)) (by rfl) (Blk.new' _ _ _ _ (by simp)) (by rfl) (by simp [Value.oneCell']) (by simp only [maxLen]; omega) (by omega) (by simp; omega) ?_; intro A' c' w3 hown3 ho hmv; have ho' : Only (w6.alloc (.cells #[.int .i64 xk, .int .i64 dn, .int .i64 xn, .bool xt, .string TX, .string TI] 28)) w3 A3 := ⟨ho.os, ho.tape, ho.output, ho.size, ho.block⟩; have B3 := hS w3 ho'; have z0 := B3.cell 0; have z1 := B3.cell 1; have z2 := B3.cell 2; have z3 := B3.cell 3; have z4 := B3.cell 4; have z5 := B3.cell 5))
        have hz60 : w.heap.size ≤ w6.heap.size := by have := hb6.size; omega
        have hb3 := hb6.trans (ho'.of_alloc.below (fun a ha => (hownD.lt ha).1) hz60)
        have hz3 := hb3.size
        have hown4 : Own w3 w.heap.size 28 6 A' (dn + 1) c' (blkCells (op.take dn) ++ [.int .i64 xk, .int .i64 dn, .int .i64 xn, .bool xt, .string TX, .string TI]) := by
          simpa using hown3
        have hown5 : Own w3 w.heap.size 28 6 A' (dn + 1) c' (blkCells (op.take dn ++ [⟨xk, dn, xn, xt, xs, xi⟩])) := by
          rw [blkCells_app, blkCells_one]
          simp only [BlockT.cells]
          rw [HTX.out, HTI.out]
          exact hown4
        have HRR := Lib.hid hown5.reads
        have hoT : opT op ⟨xk, dn, xn, xt, xs, xi⟩ = op.take dn ++ [⟨xk, dn, xn, xt, xs, xi⟩] := rfl
        obtain ⟨il, hil⟩ : ∃ il, inListT op ⟨xk, dn, xn, xt, xs, xi⟩ = il := ⟨_, rfl⟩
        have HIL := Lib.hid hil
        have HOT := Lib.hid hoT
        clear hil hoT hown4 hownD hown6 hb6 hz6 B6 e0 e1 e2 e3 e4 e5 hgW6 hsW hS ho ho' hmv hown3 hz60 q1 q2 q3
        go_simp
        apply_assumption
        refine wp_seq_k fun K3 hK3 => ?_
        go_cut [7] (fun s7 wx => s7 = .bool il ∧ wx = w3)
        case first =>
          by_cases hd0 : dn = 0
          · subst hd0
            have hilf : il = false := by rw [← HIL.out]; rfl
            subst hilf
            go_wp2_with fail
            go_meet
            exact ⟨rfl, rfl⟩
          · obtain ⟨j, hj⟩ : ∃ j, dn = j + 1 := ⟨dn - 1, by omega⟩
            obtain ⟨y, hy⟩ : ∃ y, (op.take dn ++ [⟨xk, (dn : Int), xn, xt, xs, xi⟩])[j]? = some y := ⟨_, List.getElem?_eq_getElem (by rw [List.length_append, List.length_take, HOPL.out, List.length_singleton]; omega)⟩
            obtain ⟨ad', had', _, f0, _⟩ := HRR.out.blk hy (by omega)
            have hilf : il = (y.kind == 4) := by
              rw [← HIL.out]
              unfold inListT
              rw [HOT.out]
              simp only
              rw [decide_eq_true (by omega), Bool.true_and, show ((dn : Int)).toNat - 1 = j by omega, hy]
            subst had'
            have x1 : IntKind.wrap .i64 ((dn : Int) - 1) = (dn : Int) - 1 := IntWalk.i64_in _ (by omega)
            have x2 : (0 : Int) ≤ (dn : Int) - 1 := by omega
            have x3 : ((dn : Int) - 1).toNat = j := by omega
            have x4 : (dn : Int) - 1 < ((dn + 1 : Nat) : Int) := by omega
            have x5 : (dn : Int) - 1 < (dn : Int) + 1 := by omega
            have x7 : decide ((0 : Int) < (dn : Int)) = true := decide_eq_true (by omega)
            have HILF := Lib.hid hilf
            clear hy hj hilf
            go_wp2_with fail
            go_meet
            exact ⟨by rw [HILF.out], rfl⟩
        case rest =>
        obtain ⟨rfl, hw7⟩ := hcut
        rw [hw7]
        clear hw7
        apply_assumption
        obtain ⟨p5, hp5⟩ : ∃ p, (xk == 5) = p := ⟨_, rfl⟩
        have HG2 : Hid ((if (il != p5) = true then false else if emptyT ⟨xk, dn, xn, xt, xs, xi⟩ (bs.drop (k + 1)) = true then false else rightGo (some ⟨xk, dn, xn, xt, xs, xi⟩) (opT op ⟨xk, dn, xn, xt, xs, xi⟩) (bs.drop (k + 1))) = V) := Lib.hid (by
          have := HG.out
          rw [HBAD.out, HBF.out, if_neg (by decide), HIL.out, hp5] at this
          exact this)
        obtain ⟨qn, hqn⟩ : ∃ q, (il != p5) = q := ⟨_, rfl⟩
        have HQN := Lib.hid hqn
        clear hqn
        refine wp_seq_k fun K4 hK4 => ?_
        go_cut [89] (fun s89 wx => s89 = .bool false ∧ wx = w3 ∧ qn = false)
        case first =>
          have hc : (il = true ∧ p5 = false) ∨ (il = false ∧ p5 = true) ∨ (il = true ∧ p5 = true) ∨ (il = false ∧ p5 = false) := by cases il <;> cases p5 <;> simp
          rcases hc with ⟨rfl, rfl⟩ | ⟨rfl, rfl⟩ | ⟨rfl, rfl⟩ | ⟨rfl, rfl⟩
          · have HVF : Hid (V = false) := Lib.hid (by have := HG2.out; rw [if_pos (by decide)] at this; exact this.symm)
            go_wp2_with fail
            go_ret
            rw [HVF.out]
            exact ⟨rfl, hb3⟩
          · have HVF : Hid (V = false) := Lib.hid (by have := HG2.out; rw [if_pos (by decide)] at this; exact this.symm)
            go_wp2_with fail
            go_ret
            rw [HVF.out]
            exact ⟨rfl, hb3⟩
          · go_wp2_with fail
            go_meet
            exact ⟨rfl, rfl, HQN.out.symm⟩
          · go_wp2_with fail
            go_meet
            exact ⟨rfl, rfl, HQN.out.symm⟩
        case rest =>
        obtain ⟨rfl, hw8, hqf⟩ := hcut
        rw [hw8]
        clear hw8
        have hqn : (il != p5) = false := by rw [HQN.out, hqf]
        clear hqf
        apply_assumption
        have HG3 : Hid ((if emptyT ⟨xk, dn, xn, xt, xs, xi⟩ (bs.drop (k + 1)) = true then false else rightGo (some ⟨xk, dn, xn, xt, xs, xi⟩) (opT op ⟨xk, dn, xn, xt, xs, xi⟩) (bs.drop (k + 1))) = V) := Lib.hid (by
          have := HG2.out
          rw [hqn, if_neg (by decide)] at this
          exact this)
        have hrel' : emptyT ⟨xk, dn, xn, xt, xs, xi⟩ (bs.drop (k + 1)) = false → rightGo (some ⟨xk, dn, xn, xt, xs, xi⟩) (op.take dn ++ [⟨xk, dn, xn, xt, xs, xi⟩]) (bs.drop (k + 1)) = V := fun h => by
          have := HG3.out
          rw [h, if_neg (by decide), HOT.out] at this
          exact this
        have HREL := Lib.hid hrel'
        have hlen' : (op.take dn ++ [(⟨xk, (dn : Int), xn, xt, xs, xi⟩ : BlockT)]).length = dn + 1 := by
          rw [List.length_append, List.length_take, HOPL.out, List.length_singleton, Nat.min_eq_left hdn]
        have HLEN' := Lib.hid hlen'
        have hlast : ∀ j, k + 1 = j + 1 → ∃ y, bs[j]? = some y ∧ some (⟨xk, (dn : Int), xn, xt, xs, xi⟩ : BlockT) = some y ∧ y.depth + 1 = ((dn + 1 : Nat) : Int) := fun j hj => by
          have : j = k := by omega
          subst this
          exact ⟨_, HX.out, rfl, by simp⟩
        have HLAST := Lib.hid hlast
        clear hlast hlen' hrel'
        obtain ⟨p4, hp4⟩ : ∃ p, (xk == 4) = p := ⟨_, rfl⟩
        cases p4
        case false =>
          have hem : emptyT ⟨xk, dn, xn, xt, xs, xi⟩ (bs.drop (k + 1)) = false := by unfold emptyT; simp only; rw [hp4]; rfl
          have HEM := Lib.hid hem
          clear hem
          go_upto_region 16 with fail
          go_quiet (fail)
          have hb4 := below_drewN' hb3 nq
          have hown6 := hown5.drewN nq
          generalize w3.drewN nq = w4 at *
          clear z0 z1 z2 z3 z4 z5 hb3 hown5
          go_wp2_with fail
          go_roundw
          case rel => exact ⟨k + 1, _, _, A', dn + 1, c', by omega, by go_num, rfl, HLEN'.out, by omega, fun h => by omega, HLAST.out, HREL.out HEM.out, hown6, hb4⟩
          case measure => simp [intOf]; omega
        case true =>
        obtain ⟨k1, hk1⟩ : ∃ k1 : Nat, k + 1 = k1 := ⟨_, rfl⟩
        have y1 : IntKind.wrap .i64 ((k : Int) + 1) = (k1 : Int) := by rw [IntWalk.i64_in _ (by omega)]; omega
        by_cases hkn : k1 < n
        · obtain ⟨y, hy⟩ : ∃ y, bs[k1]? = some y := ⟨_, List.getElem?_eq_getElem (by rw [HL.out]; exact hkn)⟩
          obtain ⟨ad', had', _, _, f1, _⟩ := (hr.below (hb3.mono hK)).blk hy hkn
          have had'' : ad = ad' := Option.some.inj had'
          subst had''
          have y2 : ((k1 : Int) == (n : Int)) = false := by simp; omega
          have y3 : (0 : Int) ≤ (k1 : Int) := by omega
          have y4 : ((k1 : Int)).toNat = k1 := by omega
          have y5 : (k1 : Int) < (n : Int) := by omega
          have y6 : IntKind.wrap .i64 ((dn : Int) + 1) = (dn : Int) + 1 := IntWalk.i64_in _ (by omega)
          obtain ⟨em, hem⟩ : ∃ e, (y.depth != (dn : Int) + 1) = e := ⟨_, rfl⟩
          have heT : emptyT ⟨xk, dn, xn, xt, xs, xi⟩ (bs.drop (k + 1)) = em := by
            rw [hk1, drop_some hy]
            unfold emptyT
            simp only
            rw [hp4, hem]; rfl
          have HEM := Lib.hid heT
          have HK1 := Lib.hid hk1
          clear heT hy had' hk1
          cases em
          · go_upto_region 16 with fail
            go_quiet (fail)
            have hb4 := below_drewN' hb3 nq
            have hown6 := hown5.drewN nq
            generalize w3.drewN nq = w4 at *
            clear z0 z1 z2 z3 z4 z5 hb3 hown5 f1
            go_wp2_with fail
            go_roundw
            case rel => exact ⟨k + 1, _, _, A', dn + 1, c', by have := HK1.out; omega, by have := HK1.out; go_num, rfl, HLEN'.out, by omega, fun h => by omega, HLAST.out, HREL.out HEM.out, hown6, hb4⟩
            case measure => have := HK1.out; simp [intOf]; omega
          · have HVF : Hid (V = false) := Lib.hid (by have := HG3.out; rw [HEM.out, if_pos rfl] at this; exact this.symm)
            go_upto_region 16 with fail
            go_quiet (fail)
            have hb4 := below_drewN' hb3 nq
            generalize w3.drewN nq = w4 at *
            clear z0 z1 z2 z3 z4 z5 hb3 f1
            go_wp2_with fail
            go_ret
            rw [HVF.out]
            exact ⟨rfl, hb4⟩
        · have hkn' : k1 = n := by omega
          have y2 : ((k1 : Int) == (n : Int)) = true := by simp; omega
          have heT : emptyT ⟨xk, dn, xn, xt, xs, xi⟩ (bs.drop (k + 1)) = true := by
            rw [List.drop_of_length_le (by rw [HL.out]; omega)]
            unfold emptyT
            simp only
            rw [hp4]; rfl
          have HVF : Hid (V = false) := Lib.hid (by have := HG3.out; rw [heT, if_pos rfl] at this; exact this.symm)
          clear heT hkn' hk1
          go_upto_region 16 with fail
          go_quiet (fail)
          have hb4 := below_drewN' hb3 nq
          generalize w3.drewN nq = w4 at *
          clear z0 z1 z2 z3 z4 z5 hb3
          go_wp2_with fail
          go_ret
          rw [HVF.out]
          exact ⟨rfl, hb4⟩
    · have hkn : k = n := by omega
      subst hkn
      have HX : Hid (V = true) := Lib.hid (by
        rw [← HGO.out, List.drop_of_length_le (by rw [HL.out]; exact Nat.le_refl _)]; rfl)
      go_wp2_with fail
      go_ret
      rw [HX.out]
      exact ⟨rfl, hb⟩
end Go.Proofs.YtommebalgghdjaaDoor
