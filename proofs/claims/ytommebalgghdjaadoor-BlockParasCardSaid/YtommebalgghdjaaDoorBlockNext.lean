/-
  block: the contract of next.
-/
import Derived.Test.YtommebalgghdjaaDoorBlockPara
import Derived.Test.YtommebalgghdjaaDoorBlockList
import Derived.Test.YtommebalgghdjaaDoorBlockIndented
import Derived.Test.YtommebalgghdjaaDoorBlockFenced
import Derived.Test.YtommebalgghdjaaDoorBlockRaw
namespace Go.Proofs.YtommebalgghdjaaDoor
open Go.RowKit
set_option linter.unusedVariables false

theorem fenceV_ex2 (q : Option (UInt8 × Nat × List UInt8)) : ∃ a b c, fenceV q = .tuple #[.int .u8 a, .int .i64 b, .string c, .bool q.isSome] ∧ ∀ ch n i, q = some (ch, n, i) → a = (ch.toNat : Int) ∧ b = (n : Int) ∧ c = S i := by
  rcases q with _ | ⟨ch, n, i⟩
  · exact ⟨_, _, _, rfl, fun _ _ _ h => by cases h⟩
  · refine ⟨_, _, _, rfl, fun _ _ _ h => ?_⟩
    cases h
    exact ⟨rfl, rfl, rfl⟩
theorem headV_ex2 (q : Option (Nat × List UInt8)) : ∃ a b, headV q = .tuple #[.int .i64 a, .string b, .bool q.isSome] ∧ ∀ n i, q = some (n, i) → a = (n : Int) ∧ b = S i := by
  rcases q with _ | ⟨n, i⟩
  · exact ⟨_, _, rfl, fun _ _ h => by cases h⟩
  · refine ⟨_, _, rfl, fun _ _ h => ?_⟩
    cases h
    exact ⟨rfl, rfl⟩
theorem fence_facts {l i : List UInt8} {ch : UInt8} {q : Nat} (h : fenceT l = some (ch, q, i)) : ch.toNat < 128 ∧ q ≤ l.length := by
  rcases fenceT_cases l with ⟨_, h1⟩ | ⟨_, _, h1⟩ | ⟨_, c, r, hr, ⟨_, _, h1⟩ | ⟨hc, ⟨_, h1⟩ | ⟨_, ⟨_, _, h1⟩ | ⟨_, h1⟩⟩⟩⟩
  all_goals
    rw [h1] at h
    first
      | (cases h; done)
      | (simp only [Option.some.injEq, Prod.mk.injEq] at h
         obtain ⟨rfl, rfl, _⟩ := h
         refine ⟨by rcases hc with rfl | rfl <;> decide, ?_⟩
         have h2 := rowT_le c (restT l)
         have h3 := mu_rest l
         have h4 : (restT l).length ≤ l.length := (List.dropWhile_sublist _).length_le
         omega)
theorem itemsT_pos (rc : Nat → List Ln → List BlockT) (depth : Nat) (n : Nat) {s rest : Ln} {t : List Ln} {c : UInt8} {num : Int} {cols : Nat} (he : itemT s = some (c, num, cols, rest)) : 1 ≤ (itemsT rc depth c (n + 1) (s :: t)).2 := by
  unfold itemsT
  rw [he]
  simp only [if_true]
  split <;> omega

set_option maxHeartbeats 20000000 in
set_option maxRecDepth 100000 in
theorem next_any (f depth : Nat) (hf : f ≤ 31) (IHq : depth < 12 → AllOk f (depth + 1)) (IHl : depth < 11 → AllOk f (depth + 2)) (hdp : depth ≤ 1000) (K : Nat) (xs : List ByteArray) (base g : Nat) (A : Option Addr) (n c at_ : Nat) (out : List BlockT) (w : World) (h : PSt w base g A n c at_ depth out)
    (hN : out.length + 64 * (n - at_) ≤ 1099511600000) (hr : Reads w K 1 A n (txCells xs)) (hK : K ≤ base) (hok : LnOk xs) (hn : n ≤ 1048576) (hat : at_ < n) (hnc : n ≤ c) (x : ByteArray) (hx : xs[at_]? = some x) :
    Calls Tryd.prog 27 #[.pointer (some ⟨g, 0, none⟩)] w
      fun e w' => ∃ k' : Nat, e = .returned (.tuple #[]) ∧ at_ < k' ∧ PSt w' base g A n c k' depth (out ++ (nextT (allT f) depth (L x) ((xs.map L).drop (at_ + 1))).1) ∧
        (xs.map L).drop k' = (nextT (allT f) depth (L x) ((xs.map L).drop (at_ + 1))).2 ∧ Below base w w' := by
  have hlen : xs.length = n := by have := hr.1; simpa using this
  have hxs := hok.size x (List.mem_of_getElem? hx)
  have hxm := hok x (List.mem_of_getElem? hx)
  have HL := Lib.hid hlen
  have HOK := Lib.hid hok
  have HX := Lib.hid hx
  have HR0 := Lib.hid hr
  have HN := Lib.hid hN
  have hbase := h.size
  have hgl := h.lt
  obtain ⟨ad, u, rfl, hadK, hu, hcx⟩ := hr.at_ hat
  obtain rfl : Value.string x = u := by
    obtain ⟨y, hy, rfl⟩ : ∃ y, xs[at_]? = some y ∧ Value.string y = u := by simpa using hu
    rw [hx] at hy
    rw [Option.some.inj hy]
  obtain ⟨e0, e1, e2, ef⟩ := h.cells
  have hadl : ad.block < w.heap.size := by omega
  have HDK : Hid ((xs.map L).drop at_ = L x :: (xs.map L).drop (at_ + 1)) := Lib.hid (by
    have hkl : at_ < (xs.map L).length := by rw [List.length_map, hlen]; exact hat
    rw [List.drop_eq_getElem_cons hkl]
    congr 1
    rw [List.getElem_map]
    congr 1
    rw [List.getElem?_eq_getElem (by rw [hlen]; exact hat)] at hx
    exact Option.some.inj hx)
  obtain ⟨R, hR⟩ : ∃ R, nextT (allT f) depth (L x) ((xs.map L).drop (at_ + 1)) = R := ⟨_, rfl⟩
  rw [hR]
  have HR := Lib.hid hR
  have HF := Lib.hid (fun W => fence_any x W hxs)
  have HH := Lib.hid (fun W => heading_any x W hxs)
  have HB := Lib.hid (fun W => blank_any x W (by omega))
  have HI := Lib.hid (fun W => indent_any x W hxs)
  have HRU := Lib.hid (fun W => rule_any x W hxs)
  have HHT := Lib.hid (fun W => html_any x W hxs)
  have HQ := Lib.hid (fun W hW => quotes_any x base g (some ad) n c at_ depth out W hW hxs)
  have HLS := Lib.hid (fun W hW => lists_any x base g (some ad) n c at_ depth out W hW hxs)
  obtain ⟨f1, f2, f3, hfv, hfe⟩ := fenceV_ex2 (fenceT (L x))
  obtain ⟨h1, h2, hhv, hhe⟩ := headV_ex2 (headingT (L x))
  rw [hfv] at HF
  rw [hhv] at HH
  have HFE := Lib.hid hfe
  have HHE := Lib.hid hhe
  obtain ⟨fs, hfs⟩ : ∃ fs, (fenceT (L x)).isSome = fs := ⟨_, rfl⟩
  obtain ⟨hs, hhs⟩ : ∃ hs, (headingT (L x)).isSome = hs := ⟨_, rfl⟩
  obtain ⟨bl, hbl⟩ : ∃ bl, blankT (L x) = bl := ⟨_, rfl⟩
  obtain ⟨ru, hru⟩ : ∃ ru, ruleT (L x) = ru := ⟨_, rfl⟩
  obtain ⟨qv, hqv⟩ : ∃ qv, quotesT depth (L x) = qv := ⟨_, rfl⟩
  obtain ⟨lv, hlv⟩ : ∃ lv, listsT depth (L x) = lv := ⟨_, rfl⟩
  obtain ⟨hv, hhv2⟩ : ∃ hv, htmlT (L x) = hv := ⟨_, rfl⟩
  obtain ⟨ci, hci⟩ : ∃ ci, colT 0 (L x) = ci := ⟨_, rfl⟩
  have hcib : ci ≤ 1048576 := by rw [← hci]; have := mu_col (L x) 0; omega
  rw [hfs] at HF
  rw [hhs] at HH
  rw [hbl] at HB
  rw [hru] at HRU
  rw [hqv] at HQ
  rw [hlv] at HLS
  rw [hhv2] at HHT
  rw [hci] at HI
  have HFS := Lib.hid hfs
  have HHS := Lib.hid hhs
  have HBL := Lib.hid hbl
  have HRL := Lib.hid hru
  have HQV := Lib.hid hqv
  have HLV := Lib.hid hlv
  have HHV := Lib.hid hhv2
  have HCI := Lib.hid hci
  clear hlen hok hx hr hN hu hR hfv hhv hfe hhe hfs hhs hbl hru hqv hlv hhv2 hci hxs hxm
  go_enter Tryd.func27, Tryd.ntmps27
  go_upto_region 0 with fail
  go_quiet (fail)
  have hPq := h.drewN nq
  have hbq := below_drewN' (Below.refl base w) nq
  clear e0 e1 e2 ef hcx hadl h
  generalize w.drewN nq = wq at *
  go_upto_region 4 with (first
    | (go_at_call 41; refine (HF.out _).mono ?_; rintro e w1 ⟨rfl, b1⟩; have hP1 := hPq.below b1 (Nat.le_refl _); have hb1 := hbq.trans (b1.mono hPq.size))
    | (go_at_call 42; refine (HH.out _).mono ?_; rintro e w2 ⟨rfl, b2⟩; have hP2 := hP1.below b2 (Nat.le_refl _); have hb2 := hb1.trans (b2.mono hP1.size)))
  clear hPq hbq hP1 hb1 b1 b2
  cases bl
  case true =>
    have HT : Hid (R = ([], (xs.map L).drop (at_ + 1))) := Lib.hid (by
      rw [← HR.out]
      unfold nextT
      simp only [HBL.out, reduceIte])
    go_upto_region 5 with (first
      | (go_at_call 22; refine (HB.out _).mono ?_; rintro e w5 ⟨rfl, b5⟩; have hP5 := hP2.below b5 (Nat.le_refl _); have hb5 := hb2.trans (b5.mono hP2.size)))
    obtain ⟨y0, y1, _, y3⟩ := hP5.cells
    obtain ⟨hPn, hbn0⟩ := hP5.goto_ (at_ + 1)
    have hbn := hb5.trans hbn0
    rw [show ((at_ + 1 : Nat) : Int) = (at_ : Int) + 1 by omega] at hPn hbn
    clear hbn0
    go_wp2_with fail
    go_end0
    rw [HT.out]
    exact ⟨at_ + 1, rfl, Nat.lt_succ_self _, by simpa using hPn, rfl, hbn⟩
  case false =>
    by_cases h4 : 4 ≤ ci
    · have q4 : decide ((4 : Int) ≤ (ci : Int)) = true := decide_eq_true (by omega)
      have HT : Hid (R = ([codeB depth [] (spanLines 4 ((xs.map L).drop at_)) 4], ((xs.map L).drop at_).drop (spanLines 4 ((xs.map L).drop at_)).length)) := Lib.hid (by
        rw [← HR.out]
        unfold nextT
        simp only [HBL.out, HCI.out, h4, HDK.out, Bool.false_eq_true, reduceIte])
      have hpos : 1 ≤ (spanLines 4 ((xs.map L).drop at_)).length := by rw [HDK.out]; exact spanLines_pos HBL.out (by rw [HCI.out]; exact h4)
      have HPOS := Lib.hid hpos
      have HIN := Lib.hid (fun W hW (hbW : Below base w W) => indented_any K xs base g (some ad) n c at_ depth out W hW (by have := HN.out; omega) (HR0.out.below (hbW.mono hK)) hK HOK.out hn hat hnc)
      clear hpos h4
      go_wp2_with (first
        | (go_at_call 22; refine (HB.out _).mono ?_; rintro e w5 ⟨rfl, b5⟩; have hP5 := hP2.below b5 (Nat.le_refl _); have hb5 := hb2.trans (b5.mono hP2.size))
        | (go_at_call 43; refine (HI.out _).mono ?_; rintro e w6 ⟨rfl, b6⟩; have hP6 := hP5.below b6 (Nat.le_refl _); have hb6 := hb5.trans (b6.mono hP5.size))
        | (go_at_call 44; refine (HIN.out _ hP6 hb6).mono ?_; rintro e w11 ⟨rfl, hP11, b11⟩))
      go_end0
      rw [HT.out]
      exact ⟨_, rfl, by have := HPOS.out; omega, hP11, by rw [List.drop_drop], hb6.trans b11⟩
    · have q4 : decide ((4 : Int) ≤ (ci : Int)) = false := decide_eq_false (by omega)
      have H4 := Lib.hid h4
      clear h4
      cases fs
      case true =>
        obtain ⟨⟨ch, q, info⟩, hq⟩ := Option.isSome_iff_exists.1 HFS.out
        obtain ⟨rfl, rfl, rfl⟩ := HFE.out _ _ _ hq
        obtain ⟨hch, hql⟩ := fence_facts hq
        have hqb : q ≤ 1048576 := Nat.le_trans hql (by have h1 := HOK.out x (List.mem_of_getElem? HX.out); exact Nat.le_trans (mu_len _) h1)
        have HT : Hid (R = ([codeB depth info (((xs.map L).drop (at_ + 1)).takeWhile fun x => !closesT x ch (q : Int)) ci], ((xs.map L).drop (at_ + 1)).drop ((((xs.map L).drop (at_ + 1)).takeWhile fun x => !closesT x ch (q : Int)).length + 1))) := Lib.hid (by
          rw [← HR.out]
          unfold nextT
          simp only [HBL.out, HCI.out, H4.out, hq, Bool.false_eq_true, reduceIte])
        have HFC := Lib.hid (fun W hW (hbW : Below base w W) => fenced_any ch q info ci hch hqb (by omega) K xs base g (some ad) n c (at_ + 1) depth out W hW (by have := HN.out; omega) (HR0.out.below (hbW.mono hK)) hK HOK.out hn hat (by omega) hnc)
        clear hq hql hch hqb
        go_upto_region 9 with (first
          | (go_at_call 22; refine (HB.out _).mono ?_; rintro e w5 ⟨rfl, b5⟩; have hP5 := hP2.below b5 (Nat.le_refl _); have hb5 := hb2.trans (b5.mono hP2.size))
          | (go_at_call 43; refine (HI.out _).mono ?_; rintro e w6 ⟨rfl, b6⟩; have hP6 := hP5.below b6 (Nat.le_refl _); have hb6 := hb5.trans (b6.mono hP5.size)))
        obtain ⟨y0, y1, _, y3⟩ := hP6.cells
        obtain ⟨hPn, hbn0⟩ := hP6.goto_ (at_ + 1)
        have hbn := hb6.trans hbn0
        rw [show ((at_ + 1 : Nat) : Int) = (at_ : Int) + 1 by omega] at hPn hbn
        clear hbn0
        go_upto_region 10 with fail
        generalize w6.setCell ⟨g, 1, none⟩ (.int .i64 ((at_ : Int) + 1)) = wn at *
        clear y0 y1 y3
        go_wp2_with (first
          | (go_at_call 43; refine (HI.out _).mono ?_; rintro e w10 ⟨rfl, b10⟩; have hP10 := hPn.below b10 (Nat.le_refl _); have hb10 := hbn.trans (b10.mono hPn.size))
          | (go_at_call 45; refine (HFC.out _ hP10 hb10).mono ?_; rintro e w11 ⟨rfl, hP11, b11⟩))
        go_end0
        rw [HT.out]
        exact ⟨_, rfl, by omega, hP11, by rw [List.drop_drop]; congr 1, hb10.trans b11⟩
      case false =>
        have HFN : Hid (fenceT (L x) = none) := Lib.hid (Option.not_isSome_iff_eq_none.1 (by rw [HFS.out]; decide))
        cases hs
        case true =>
          obtain ⟨⟨hl, tx⟩, hq⟩ := Option.isSome_iff_exists.1 HHS.out
          obtain ⟨rfl, rfl⟩ := HHE.out _ _ hq
          have HT : Hid (R = ([⟨2, depth, hl, false, tx, []⟩], (xs.map L).drop (at_ + 1))) := Lib.hid (by
            rw [← HR.out]
            unfold nextT
            simp only [HBL.out, HCI.out, H4.out, HFN.out, hq, Bool.false_eq_true, reduceIte])
          have hput := fun W hW => put_any ⟨2, 0, (hl : Nat), false, tx, []⟩ base g (some ad) n c (at_ + 1) depth out W hW (by have := HN.out; omega)
          unfold BlockT.val at hput
          simp only [show (S ([] : List UInt8)) = ⟨#[]⟩ from rfl] at hput
          have HPUT := Lib.hid hput
          clear hput hq
          generalize S tx = TX at *
          go_upto_region 12 with (first
            | (go_at_call 22; refine (HB.out _).mono ?_; rintro e w5 ⟨rfl, b5⟩; have hP5 := hP2.below b5 (Nat.le_refl _); have hb5 := hb2.trans (b5.mono hP2.size))
            | (go_at_call 43; refine (HI.out _).mono ?_; rintro e w6 ⟨rfl, b6⟩; have hP6 := hP5.below b6 (Nat.le_refl _); have hb6 := hb5.trans (b6.mono hP5.size)))
          obtain ⟨y0, y1, _, y3⟩ := hP6.cells
          obtain ⟨hPn, hbn0⟩ := hP6.goto_ (at_ + 1)
          have hbn := hb6.trans hbn0
          rw [show ((at_ + 1 : Nat) : Int) = (at_ : Int) + 1 by omega] at hPn hbn
          clear hbn0
          go_upto_region 13 with fail
          generalize w6.setCell ⟨g, 1, none⟩ (.int .i64 ((at_ : Int) + 1)) = wn at *
          clear y0 y1 y3
          go_wp2_with (go_at_call 46; refine (HPUT.out _ hPn).mono ?_; rintro e w11 ⟨rfl, hP11, b11, _⟩)
          go_end0
          rw [HT.out]
          exact ⟨_, rfl, Nat.lt_succ_self _, hP11, rfl, hbn.trans b11⟩
        case false =>
          have HHN : Hid (headingT (L x) = none) := Lib.hid (Option.not_isSome_iff_eq_none.1 (by rw [HHS.out]; decide))
          cases ru
          case true =>
            have HT : Hid (R = ([⟨7, depth, 0, false, [], []⟩], (xs.map L).drop (at_ + 1))) := Lib.hid (by
              rw [← HR.out]
              unfold nextT
              simp only [HBL.out, HCI.out, H4.out, HFN.out, HHN.out, HRL.out, Bool.false_eq_true, reduceIte])
            have hput := fun W hW => put_any ⟨7, 0, 0, false, [], []⟩ base g (some ad) n c (at_ + 1) depth out W hW (by have := HN.out; omega)
            unfold BlockT.val at hput
            simp only [show (S ([] : List UInt8)) = ⟨#[]⟩ from rfl] at hput
            have HPUT := Lib.hid hput
            clear hput
            go_upto_region 15 with (first
              | (go_at_call 22; refine (HB.out _).mono ?_; rintro e w5 ⟨rfl, b5⟩; have hP5 := hP2.below b5 (Nat.le_refl _); have hb5 := hb2.trans (b5.mono hP2.size))
              | (go_at_call 43; refine (HI.out _).mono ?_; rintro e w6 ⟨rfl, b6⟩; have hP6 := hP5.below b6 (Nat.le_refl _); have hb6 := hb5.trans (b6.mono hP5.size))
              | (go_at_call 47; refine (HRU.out _).mono ?_; rintro e w7 ⟨rfl, b7⟩; have hP7 := hP6.below b7 (Nat.le_refl _); have hb7 := hb6.trans (b7.mono hP6.size)))
            obtain ⟨y0, y1, _, y3⟩ := hP7.cells
            obtain ⟨hPn, hbn0⟩ := hP7.goto_ (at_ + 1)
            have hbn := hb7.trans hbn0
            rw [show ((at_ + 1 : Nat) : Int) = (at_ : Int) + 1 by omega] at hPn hbn
            clear hbn0
            go_upto_region 16 with fail
            generalize w7.setCell ⟨g, 1, none⟩ (.int .i64 ((at_ : Int) + 1)) = wn at *
            clear y0 y1 y3
            go_wp2_with (go_at_call 46; refine (HPUT.out _ hPn).mono ?_; rintro e w11 ⟨rfl, hP11, b11, _⟩)
            go_end0
            rw [HT.out]
            exact ⟨_, rfl, Nat.lt_succ_self _, hP11, rfl, hbn.trans b11⟩
          case false =>
            cases qv
            case true =>
              have hq12 : (quoteT (L x)).isSome = true ∧ depth < 12 := by have := HQV.out; unfold quotesT at this; rw [Bool.and_eq_true, decide_eq_true_eq] at this; exact this
              have HT : Hid (R = (⟨3, depth, 0, false, [], []⟩ :: allT f (depth + 1) ((((xs.map L).drop at_).takeWhile fun x => (quoteT x).isSome).filterMap quoteT), ((xs.map L).drop at_).drop (((xs.map L).drop at_).takeWhile fun x => (quoteT x).isSome).length)) := Lib.hid (by
                rw [← HR.out]
                unfold nextT
                simp only [HBL.out, HCI.out, H4.out, HFN.out, HHN.out, HRL.out, HQV.out, HDK.out, Bool.false_eq_true, reduceIte])
              have HPOS : Hid (1 ≤ (((xs.map L).drop at_).takeWhile fun x => (quoteT x).isSome).length) := Lib.hid (by rw [HDK.out, List.takeWhile_cons, if_pos hq12.1]; simp)
              have HQO := Lib.hid (fun W hW (hbW : Below base w W) => quote_any' f depth hf (IHq hq12.2) hdp K xs base g (some ad) n c at_ out W hW HN.out (HR0.out.below (hbW.mono hK)) hK HOK.out hn hat hnc)
              clear hq12
              go_wp2_with (first
                | (go_at_call 22; refine (HB.out _).mono ?_; rintro e w5 ⟨rfl, b5⟩; have hP5 := hP2.below b5 (Nat.le_refl _); have hb5 := hb2.trans (b5.mono hP2.size))
                | (go_at_call 43; refine (HI.out _).mono ?_; rintro e w6 ⟨rfl, b6⟩; have hP6 := hP5.below b6 (Nat.le_refl _); have hb6 := hb5.trans (b6.mono hP5.size))
                | (go_at_call 47; refine (HRU.out _).mono ?_; rintro e w7 ⟨rfl, b7⟩; have hP7 := hP6.below b7 (Nat.le_refl _); have hb7 := hb6.trans (b7.mono hP6.size))
                | (go_at_call 48; refine (HQ.out _ hP7).mono ?_; rintro e w8 ⟨rfl, b8⟩; have hP8 := hP7.below b8 (Nat.le_refl _); have hb8 := hb7.trans (b8.mono hP7.size))
                | (go_at_call 49; refine (HQO.out _ hP8 hb8).mono ?_; rintro e w11 ⟨rfl, hP11, b11⟩))
              go_end0
              rw [HT.out]
              exact ⟨_, rfl, by have := HPOS.out; omega, hP11, by rw [List.drop_drop], hb8.trans b11⟩
            case false =>
              cases lv
              case true =>
                have hl12 : (itemT (L x)).isSome = true ∧ depth < 11 := by have := HLV.out; unfold listsT at this; rw [Bool.and_eq_true, decide_eq_true_eq] at this; exact this
                obtain ⟨⟨ch, num, cols, rest⟩, hit⟩ := Option.isSome_iff_exists.1 hl12.1
                have HFU : Hid (itemsT (allT f) depth ch (((xs.map L).drop (at_ + 1)).length + 1) ((xs.map L).drop at_) = itemsT (allT f) depth ch n ((xs.map L).drop at_)) := Lib.hid (by
                  apply itemsT_more
                  · rw [HDK.out]; simp
                  · rw [List.length_drop, List.length_map, HL.out]; omega)
                have HT : Hid (R = (listB depth num ((((xs.map L).drop at_).take (itemsT (allT f) depth ch n ((xs.map L).drop at_)).2).all fun x => !blankT x) ch :: (itemsT (allT f) depth ch n ((xs.map L).drop at_)).1, ((xs.map L).drop at_).drop (itemsT (allT f) depth ch n ((xs.map L).drop at_)).2)) := Lib.hid (by
                  rw [← HR.out]
                  unfold nextT
                  simp only [HBL.out, HCI.out, H4.out, HFN.out, HHN.out, HRL.out, HQV.out, HLV.out, hit, ← HDK.out, HFU.out, Bool.false_eq_true, reduceIte])
                have HPOS : Hid (1 ≤ (itemsT (allT f) depth ch n ((xs.map L).drop at_)).2) := Lib.hid (by rw [← HFU.out, HDK.out]; exact itemsT_pos _ _ _ hit)
                have HLO := Lib.hid (fun W hW (hbW : Below base w W) => list_any' f depth hf (IHl hl12.2) hdp K xs base g (some ad) n c at_ out W hW HN.out (HR0.out.below (hbW.mono hK)) hK HOK.out hn hat hnc ch num cols rest x HX.out hit)
                clear hl12 hit
                go_wp2_with (first
                  | (go_at_call 22; refine (HB.out _).mono ?_; rintro e w5 ⟨rfl, b5⟩; have hP5 := hP2.below b5 (Nat.le_refl _); have hb5 := hb2.trans (b5.mono hP2.size))
                  | (go_at_call 43; refine (HI.out _).mono ?_; rintro e w6 ⟨rfl, b6⟩; have hP6 := hP5.below b6 (Nat.le_refl _); have hb6 := hb5.trans (b6.mono hP5.size))
                  | (go_at_call 47; refine (HRU.out _).mono ?_; rintro e w7 ⟨rfl, b7⟩; have hP7 := hP6.below b7 (Nat.le_refl _); have hb7 := hb6.trans (b7.mono hP6.size))
                  | (go_at_call 48; refine (HQ.out _ hP7).mono ?_; rintro e w8 ⟨rfl, b8⟩; have hP8 := hP7.below b8 (Nat.le_refl _); have hb8 := hb7.trans (b8.mono hP7.size))
                  | (go_at_call 50; refine (HLS.out _ hP8).mono ?_; rintro e w9 ⟨rfl, b9⟩; have hP9 := hP8.below b9 (Nat.le_refl _); have hb9 := hb8.trans (b9.mono hP8.size))
                  | (go_at_call 51; refine (HLO.out _ hP9 hb9).mono ?_; rintro e w11 ⟨rfl, hP11, b11⟩))
                go_end0
                rw [HT.out]
                exact ⟨_, rfl, by have := HPOS.out; omega, hP11, by rw [List.drop_drop], hb9.trans b11⟩
              case false =>
                cases hv
                case true =>
                  have HT : Hid (R = ([⟨8, depth, 0, false, joinT (((xs.map L).drop at_).takeWhile fun x => !blankT x), []⟩], ((xs.map L).drop at_).drop (((xs.map L).drop at_).takeWhile fun x => !blankT x).length)) := Lib.hid (by
                    rw [← HR.out]
                    unfold nextT
                    simp only [HBL.out, HCI.out, H4.out, HFN.out, HHN.out, HRL.out, HQV.out, HLV.out, HHV.out, HDK.out, Bool.false_eq_true, reduceIte])
                  have HPOS : Hid (1 ≤ (((xs.map L).drop at_).takeWhile fun x => !blankT x).length) := Lib.hid (by rw [HDK.out, List.takeWhile_cons, if_pos (by rw [HBL.out]; rfl)]; simp)
                  have HRW := Lib.hid (fun W hW (hbW : Below base w W) => raw_any K xs base g (some ad) n c at_ depth out W hW (by have := HN.out; omega) (HR0.out.below (hbW.mono hK)) hK HOK.out hn hat hnc)
                  go_wp2_with (first
                    | (go_at_call 22; refine (HB.out _).mono ?_; rintro e w5 ⟨rfl, b5⟩; have hP5 := hP2.below b5 (Nat.le_refl _); have hb5 := hb2.trans (b5.mono hP2.size))
                    | (go_at_call 43; refine (HI.out _).mono ?_; rintro e w6 ⟨rfl, b6⟩; have hP6 := hP5.below b6 (Nat.le_refl _); have hb6 := hb5.trans (b6.mono hP5.size))
                    | (go_at_call 47; refine (HRU.out _).mono ?_; rintro e w7 ⟨rfl, b7⟩; have hP7 := hP6.below b7 (Nat.le_refl _); have hb7 := hb6.trans (b7.mono hP6.size))
                    | (go_at_call 48; refine (HQ.out _ hP7).mono ?_; rintro e w8 ⟨rfl, b8⟩; have hP8 := hP7.below b8 (Nat.le_refl _); have hb8 := hb7.trans (b8.mono hP7.size))
                    | (go_at_call 50; refine (HLS.out _ hP8).mono ?_; rintro e w9 ⟨rfl, b9⟩; have hP9 := hP8.below b9 (Nat.le_refl _); have hb9 := hb8.trans (b9.mono hP8.size))
                    | (go_at_call 52; refine (HHT.out _).mono ?_; rintro e w10 ⟨rfl, b10⟩; have hP10 := hP9.below b10 (Nat.le_refl _); have hb10 := hb9.trans (b10.mono hP9.size))
                    | (go_at_call 53; refine (HRW.out _ hP10 hb10).mono ?_; rintro e w11 ⟨rfl, hP11, b11⟩))
                  go_end0
                  rw [HT.out]
                  exact ⟨_, rfl, by have := HPOS.out; omega, hP11, by rw [List.drop_drop], hb10.trans b11⟩
                case false =>
                  have HT : Hid (R = ([paraB depth (restT (L x) :: (paraGo depth ((xs.map L).drop (at_ + 1))).1) (paraGo depth ((xs.map L).drop (at_ + 1))).2.1], (paraGo depth ((xs.map L).drop (at_ + 1))).2.2)) := Lib.hid (by
                    rw [← HR.out]
                    unfold nextT
                    simp only [HBL.out, HCI.out, H4.out, HFN.out, HHN.out, HRL.out, HQV.out, HLV.out, HHV.out, Bool.false_eq_true, reduceIte])
                  have HPA := Lib.hid (fun W hW (hbW : Below base w W) => para_any depth K xs base g (some ad) n c at_ out W hW (by have := HN.out; omega) (HR0.out.below (hbW.mono hK)) hK HOK.out hn hat hnc x HX.out)
                  go_wp2_with (first
                    | (go_at_call 22; refine (HB.out _).mono ?_; rintro e w5 ⟨rfl, b5⟩; have hP5 := hP2.below b5 (Nat.le_refl _); have hb5 := hb2.trans (b5.mono hP2.size))
                    | (go_at_call 43; refine (HI.out _).mono ?_; rintro e w6 ⟨rfl, b6⟩; have hP6 := hP5.below b6 (Nat.le_refl _); have hb6 := hb5.trans (b6.mono hP5.size))
                    | (go_at_call 47; refine (HRU.out _).mono ?_; rintro e w7 ⟨rfl, b7⟩; have hP7 := hP6.below b7 (Nat.le_refl _); have hb7 := hb6.trans (b7.mono hP6.size))
                    | (go_at_call 48; refine (HQ.out _ hP7).mono ?_; rintro e w8 ⟨rfl, b8⟩; have hP8 := hP7.below b8 (Nat.le_refl _); have hb8 := hb7.trans (b8.mono hP7.size))
                    | (go_at_call 50; refine (HLS.out _ hP8).mono ?_; rintro e w9 ⟨rfl, b9⟩; have hP9 := hP8.below b9 (Nat.le_refl _); have hb9 := hb8.trans (b9.mono hP8.size))
                    | (go_at_call 52; refine (HHT.out _).mono ?_; rintro e w10 ⟨rfl, b10⟩; have hP10 := hP9.below b10 (Nat.le_refl _); have hb10 := hb9.trans (b10.mono hP9.size))
                    | (go_at_call 54; refine (HPA.out _ hP10 hb10).mono ?_; rintro e w11 ⟨kp, rfl, hk1, hk2, hD, hP11, b11⟩))
                  go_end0
                  rw [HT.out]
                  exact ⟨_, rfl, hk1, hP11, hD, hb10.trans b11⟩
end Go.Proofs.YtommebalgghdjaaDoor
