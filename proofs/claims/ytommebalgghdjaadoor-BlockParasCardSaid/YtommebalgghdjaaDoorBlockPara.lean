/-
  block: the contract of para.
-/
import Derived.Test.YtommebalgghdjaaDoorBlockEnds
import Derived.Test.YtommebalgghdjaaDoorBlockQuote
import Derived.Lib.Join
namespace Go.Proofs.YtommebalgghdjaaDoor
open Go.RowKit
set_option linter.unusedVariables false

theorem join_LF : ∀ l : List Ln, Lib.join l [10] = joinLF l
  | [] => rfl
  | [x] => Lib.join_one x [10]
  | x :: y :: t => by
    rw [Lib.join_cons, joinLF, ← join_LF (y :: t), Lib.join_cons]
    simp [Lib.joinTail]
theorem joinLF_le : ∀ l : List Ln, (joinLF l).length ≤ (joinT l).length
  | [] => by simp [joinLF, joinT]
  | [x] => by simp [joinLF, joinT]
  | x :: y :: t => by
    have := joinLF_le (y :: t)
    rw [joinLF, List.length_append, List.length_cons]
    have e : (joinT (x :: y :: t)).length = x.length + 1 + (joinT (y :: t)).length := by simp [joinT]; omega
    omega
def restB (x : ByteArray) : ByteArray := S (restT (L x))
theorem restB_ok {ls : List ByteArray} (h : LnOk ls) : LnOk (ls.map restB) := fun x hx => by
  obtain ⟨y, hy, rfl⟩ := List.mem_map.1 hx
  have := h y hy
  have := mu_rest (L y)
  unfold restB
  rw [L_S]; omega
theorem restB_map (ls : List ByteArray) : (ls.map restB).map L = ls.map fun x => restT (L x) := by
  rw [List.map_map]; apply List.map_congr_left; intro x _; simp [restB]
theorem trimLeftBl_any (s : ByteArray) (w : World) :
    Calls Tryd.prog 68 #[.string s, .string ⟨#[32, 9]⟩] w fun e w' => e = .returned (.string (restB s)) ∧ Below w.heap.size w w' := by
  refine (Any.strings_TrimLeft_ascii Tryd.lays161 zeroSet (by kernel_rfl) s ⟨#[32, 9]⟩ w (by decide) (fun j b hb => ascii_blanks b (List.mem_of_getElem? hb))).mono ?_
  rintro e w1 ⟨rfl, b1⟩
  refine ⟨?_, b1⟩
  congr 2
  show S (Lib.trimLeftS (L s) [32, 9]) = S (restT (L s))
  congr 1
  unfold Lib.trimLeftS restT
  congr 1
  funext b
  show ([32, 9] : List UInt8).contains b = (b == 32 || b == 9)
  simp only [List.contains_cons, List.contains_nil, Bool.or_false]
theorem joinLF_any (xs : List ByteArray) (s0 : Nat) (A : Option Addr) (m c : Nat) (w : World) (h : Own w s0 9 1 A m c (txCells xs)) (h0 : 0 < m) (hok : LnOk xs) (hm : m ≤ 1048576) :
    Calls Tryd.prog 80 #[.slice A m c, .string ⟨#[10]⟩] w fun e w' => e = .returned (.string (S (joinLF (xs.map L)))) ∧ Below w.heap.size w w' := by
  obtain ⟨ga, rfl, _, hg2⟩ := h.some_ h0
  have hlen : xs.length = m := by have := h.len; simpa using this
  have := Tryd.strings_Join ga 0 c xs ⟨#[10]⟩ w (fun j x hx => by rw [Nat.zero_add]; exact h.cell (by rw [List.getElem?_map, hx]; rfl)) hg2 (by omega) (by rw [hlen]; exact h.cap) (by
    have h1 := joinLF_le (xs.map L)
    have h2 := join_ok hok (by omega)
    rw [show (⟨#[10]⟩ : ByteArray).data.toList = [10] from rfl, show xs.map (·.data.toList) = xs.map L from rfl, join_LF]
    omega)
  rw [hlen] at this
  refine this.mono ?_
  rintro e w1 ⟨rfl, b1⟩
  refine ⟨?_, b1⟩
  rw [show (⟨#[10]⟩ : ByteArray).data.toList = [10] from rfl, show xs.map (·.data.toList) = xs.map L from rfl, join_LF]
  rfl

set_option maxHeartbeats 20000000 in
set_option maxRecDepth 100000 in
theorem para_any (depth : Nat) (K : Nat) (xs : List ByteArray) (base g : Nat) (A : Option Addr) (n c at_ : Nat) (out : List BlockT) (w : World) (h : PSt w base g A n c at_ depth out)
    (hN : out.length ≤ 1099511627776) (hr : Reads w K 1 A n (txCells xs)) (hK : K ≤ base) (hok : LnOk xs) (hn : n ≤ 1048576) (hat : at_ < n) (hnc : n ≤ c) (x0 : ByteArray) (hx0 : xs[at_]? = some x0) :
    Calls Tryd.prog 54 #[.pointer (some ⟨g, 0, none⟩)] w
      fun e w' => ∃ k' : Nat, e = .returned (.tuple #[]) ∧ at_ < k' ∧ k' ≤ n ∧ (xs.map L).drop k' = (paraGo depth ((xs.map L).drop (at_ + 1))).2.2 ∧
        PSt w' base g A n c k' depth (out ++ [paraB depth (restT (L x0) :: (paraGo depth ((xs.map L).drop (at_ + 1))).1) (paraGo depth ((xs.map L).drop (at_ + 1))).2.1]) ∧ Below base w w' := by
  have hlen : xs.length = n := by have := hr.1; simpa using this
  have HL := Lib.hid hlen
  have HOK := Lib.hid hok
  have HX0 := Lib.hid hx0
  have hbase := h.size
  obtain ⟨ad, rfl, hadK, _⟩ := hr.2 (by omega)
  clear hlen hok hx0
  obtain ⟨s0, hs0⟩ : ∃ s0, w.heap.size = s0 := ⟨_, rfl⟩
  rw [hs0] at hbase
  have HS0 := Lib.hid hs0
  clear hs0
  go_enter Tryd.func54, Tryd.ntmps54
  go_wp2_with fail
  go_loopw [2, 3] (fun s2 s3 wr => ∃ (k : Nat) (A1 : Option Addr) (m1 c1 : Nat), at_ ≤ k ∧ k ≤ n ∧ m1 = k - at_ ∧ s2 = .slice A1 m1 c1 ∧ s3 = .int .i64 0 ∧ Own wr s0 9 1 A1 m1 c1 (txCells (((xs.drop at_).take (k - at_)).map restB)) ∧
    (at_ + 1 ≤ k → paraGo depth ((xs.map L).drop (at_ + 1)) = (((xs.drop (at_ + 1)).take (k - (at_ + 1))).map (fun x => restT (L x)) ++ (paraGo depth ((xs.map L).drop k)).1, (paraGo depth ((xs.map L).drop k)).2)) ∧
    PSt wr base g (some ad) n c k depth out ∧ Below base w wr ∧ s0 ≤ wr.heap.size) (fun _ _ wr => n - intAt wr ⟨g, 1, none⟩)
  case atStart => exact ⟨at_, none, 0, 0, Nat.le_refl _, Nat.le_of_lt hat, by omega, rfl, rfl, by simpa using Own.nil _ _ _ _, fun h => by omega, h, Below.refl _ _, by rw [HS0.out]; exact Nat.le_refl _⟩
  case round =>
    obtain ⟨k, A1, m1, c1, hk1, hk2, hm1, rfl, rfl, hown, hpg, hP, hb, hz⟩ := hrel
    have HM1 := Lib.hid hm1
    have HPG := Lib.hid hpg
    have HM := Lib.hid hP.intAt
    obtain ⟨e0, e1, e2, ef⟩ := hP.cells
    have hgl := hP.lt
    have hmn : m1 ≤ n := by omega
    clear hm1 hpg
    by_cases hlt : k < n
    · obtain ⟨ad', u, had', _, hx0, hcx⟩ := (hr.below (hb.mono hK)).at_ hlt
      have had'' : ad = ad' := Option.some.inj had'
      subst had''
      obtain ⟨x, hx, rfl⟩ : ∃ x, xs[k]? = some x ∧ Value.string x = u := by simpa using hx0
      have hxs := HOK.out.size x (List.mem_of_getElem? hx)
      have hxm := HOK.out x (List.mem_of_getElem? hx)
      have hadl : ad.block < wr.heap.size := by have := hP.size; omega
      have HX := Lib.hid hx
      have HSN := Lib.hid (mid_snoc hk1 hx)
      have HDK : Hid ((xs.map L).drop k = L x :: (xs.map L).drop (k + 1)) := Lib.hid (by
        have hkl : k < (xs.map L).length := by rw [List.length_map, HL.out]; exact hlt
        rw [List.drop_eq_getElem_cons hkl]
        congr 1
        rw [List.getElem_map]
        congr 1
        rw [List.getElem?_eq_getElem (by rw [HL.out]; exact hlt)] at hx
        exact Option.some.inj hx)
      have HTL := Lib.hid (fun W => trimLeftBl_any x W)
      have HUN := Lib.hid (fun W => under_any x W hxs)
      have HEN := Lib.hid (fun W (hW : PSt W base g (some ad) n c k depth out) => ends_any x base g (some ad) n c k depth out W hW hxs hxm)
      clear hx hx0 had' hxm
      go_upto_region 2 with fail
      go_quiet (fail)
      have hPq := hP.drewN nq
      have hownq := hown.drewN nq
      have hbq := below_drewN' hb nq
      have hzq : s0 ≤ (wr.drewN nq).heap.size := hz
      have hcxq : (wr.drewN nq).cell? (ad.add k) = some (.string x) := hcx
      clear hP hown hb e0 e1 e2 ef hgl hcx hadl hz
      generalize wr.drewN nq = wq at *
      obtain ⟨e0, e1, e2, ef⟩ := hPq.cells
      go_upto_region 3 with fail
      go_quiet (fail)
      have hP := hPq.drewN nq
      have hown := hownq.drewN nq
      have hb := below_drewN' hbq nq
      have hz : s0 ≤ (wq.drewN nq).heap.size := hzq
      clear hPq hownq hbq e0 e1 e2 ef hcxq hzq
      generalize wq.drewN nq = w0 at *
      have hgl := hP.lt
      rcases Nat.eq_or_lt_of_le hk1 with hka | hka
      · have hm0 : m1 = 0 := by have := HM1.out; omega
        subst hm0
        have HNEXT : Hid (at_ + 1 ≤ k + 1 → paraGo depth ((xs.map L).drop (at_ + 1)) = (((xs.drop (at_ + 1)).take (k + 1 - (at_ + 1))).map (fun x => restT (L x)) ++ (paraGo depth ((xs.map L).drop (k + 1))).1, (paraGo depth ((xs.map L).drop (k + 1))).2)) := Lib.hid (by
          intro _
          rw [← hka]; simp)
        clear hka
        go_upto_region 9 with fail
        obtain ⟨y0, y1, _, y3⟩ := hP.cells
        have HRB : Hid (((xs.drop at_).take (k + 1 - at_)).map restB = ((xs.drop at_).take (k - at_)).map restB ++ [restB x]) := Lib.hid (by rw [HSN.out]; simp)
        generalize restB x = R at *
        go_upto_region 10 with (first
          | (go_at_call 68
             refine (HTL.out _).mono ?_
             rintro e w3 ⟨rfl, b3⟩
             have hP3 := hP.below b3 (Nat.le_refl _)
             have hown3 := hown.below b3 (Nat.le_refl _)
             have hb3 := hb.trans (b3.mono hP.size)
             have hz3 : s0 ≤ w3.heap.size := by have := b3.size; omega)
          | (at_builtin; refine wpList_app1 Tryd.elTexts rfl (.tmp 47) (.tmp 50) rfl rfl (by exact hown3.alloc _) rfl (Blk.new' _ _ _ _ (by simp)) rfl (by simp [Value.oneCell']) (by simp only [maxLen]; omega) (by omega) (by simp; omega) ?_
             intro A4 c4 w4 hr4 ho4 hm4))
        have hP4 := (hP3.alloc _).only (hown3.alloc _) ho4
        have hb4 := hb3.trans (ho4.of_alloc.below (K := base) (fun a ha => by have := (hown3.lt ha).1; omega) hP3.size)
        have hz4 : s0 ≤ w4.heap.size := by have := ho4.size; simp at this; omega
        clear y0 y1 y3
        obtain ⟨y0, y1, _, y3⟩ := hP4.cells
        obtain ⟨hP5, hb5⟩ := hP4.goto_ (k + 1)
        obtain ⟨cs, hBc⟩ : ∃ cs, Blk w4 g 44 cs := by obtain ⟨_, _, _, _, hB, _⟩ := hP4; exact ⟨_, hB⟩
        have hr5 := hr4.setBlk (i := 1) hBc (by decide) (.int .i64 ((k + 1 : Nat) : Int))
        have HI5 := Lib.hid hP5.intAt
        go_wp2_with fail
        go_roundw
        case rel =>
          refine ⟨k + 1, A4, _, c4, by omega, by omega, ?_, rfl, rfl, ?_, HNEXT.out, by simpa using hP5, by simpa using hb4.trans hb5, by simp [World.setCell]; omega⟩
          · have := HM1.out; omega
          · rw [HRB.out]
            simpa [txCells] using hr5
        case measure =>
          have h1 := HM.out
          have h2 := HI5.out
          simp at h2 ⊢
          rw [h1]
          omega
      · have hpg := HPG.out hka
        rw [HDK.out] at hpg
        have hm0 : 0 < m1 := by have := HM1.out; omega
        have q0 : decide ((0 : Int) < (m1 : Int)) = true := decide_eq_true (by omega)
        obtain ⟨lv, hlv⟩ : ∃ lv, underT (L x) = lv := ⟨_, rfl⟩
        rw [hlv] at HUN
        by_cases h0 : 0 < lv
        · have HFIN : Hid (paraGo depth ((xs.map L).drop (at_ + 1)) = (((xs.drop (at_ + 1)).take (k - (at_ + 1))).map (fun x => restT (L x)), lv, (xs.map L).drop (k + 1))) := Lib.hid (by
            rw [hpg]
            conv => lhs; unfold paraGo
            rw [hlv, if_pos h0]; simp)
          clear hpg hlv
          have q1 : decide ((0 : Int) < (lv : Int)) = true := decide_eq_true (by omega)
          go_upto_region 7 with (go_at_call 78; refine (HUN.out _).mono ?_; rintro e w1 ⟨rfl, b1⟩)
          have hP1 := hP.below b1 (Nat.le_refl _)
          have hown1 := hown.below b1 (Nat.le_refl _)
          have hb1 := hb.trans (b1.mono hP.size)
          obtain ⟨y0, y1, _, y3⟩ := hP1.cells
          obtain ⟨hPe, hb2⟩ := hP1.goto_ (k + 1)
          have hbe := hb1.trans hb2
          obtain ⟨cs, hBc⟩ : ∃ cs, Blk w1 g 44 cs := by obtain ⟨_, _, _, _, hB, _⟩ := hP1; exact ⟨_, hB⟩
          have howne := hown1.setBlk (i := 1) hBc (by decide) (.int .i64 ((k + 1 : Nat) : Int))
          go_upto_region 11 with fail
          rw [show ((k + 1 : Nat) : Int) = (k : Int) + 1 by omega] at hPe hbe howne
          clear hBc hb1 hb2 hP1 hown1 y0 y1 y3 b1
          generalize w1.setCell ⟨g, 1, none⟩ (.int .i64 ((k : Int) + 1)) = wf at *
          obtain ⟨ke, hke⟩ : ∃ ke, k + 1 = ke := ⟨_, rfl⟩
          rw [hke] at hPe HFIN
          have hken : at_ < ke ∧ ke ≤ n := by omega
          have HKEN := Lib.hid hken
          clear hke hken
          have HRBL : Hid ((((xs.drop at_).take (k - at_)).map restB).map L = restT (L x0) :: ((xs.drop (at_ + 1)).take (k - (at_ + 1))).map fun x => restT (L x)) := Lib.hid (by
            rw [restB_map]
            have hd : xs.drop at_ = x0 :: xs.drop (at_ + 1) := by
              have hal : at_ < xs.length := by rw [HL.out]; exact hat
              rw [List.drop_eq_getElem_cons hal]
              congr 1
              have := HX0.out
              rw [List.getElem?_eq_getElem hal] at this
              exact Option.some.inj this
            rw [hd, show k - at_ = k - (at_ + 1) + 1 by omega, List.take_succ_cons, List.map_cons])
          have hokr : LnOk (((xs.drop at_).take (k - at_)).map restB) := restB_ok fun x hx => HOK.out x (List.mem_of_mem_drop (List.mem_of_mem_take hx))
          have hjn := joinLF_any _ s0 A1 m1 c1 wf howne hm0 hokr (by omega)
          rw [HRBL.out] at hjn
          have hjl : (joinLF (restT (L x0) :: ((xs.drop (at_ + 1)).take (k - (at_ + 1))).map fun x => restT (L x))).length ≤ 140737488355328 := by
            have h1 := joinLF_le ((((xs.drop at_).take (k - at_)).map restB).map L)
            have h2 := join_ok hokr (by rw [List.length_map, List.length_take]; omega)
            rw [HRBL.out] at h1 h2
            omega
          obtain ⟨J, hJ⟩ : ∃ J, joinLF (restT (L x0) :: ((xs.drop (at_ + 1)).take (k - (at_ + 1))).map fun x => restT (L x)) = J := ⟨_, rfl⟩
          rw [hJ] at hjn hjl
          have HJN := Lib.hid hjn
          have HTR : Hid (∀ W, Calls Tryd.prog 67 #[.string (S J), .string ⟨#[32, 9]⟩] W fun e w' => e = .returned (.string (S (Lib.trimRightS J [32, 9]))) ∧ Below W.heap.size W w') := Lib.hid fun W => by
            have := trimRightCs_any (S J) ⟨#[32, 9]⟩ W (by rw [size_S]; omega) (by decide) ascii_blanks
            rwa [L_S, L_lit] at this
          have HPB : Hid (paraB depth (restT (L x0) :: (paraGo depth ((xs.map L).drop (at_ + 1))).1) (paraGo depth ((xs.map L).drop (at_ + 1))).2.1 = ⟨2, (depth : Int), (lv : Nat), false, Lib.trimRightS J [32, 9], []⟩) := Lib.hid (by
            rw [HFIN.out]
            unfold paraB
            simp only [hJ]
            rw [if_pos h0])
          have HD : Hid ((xs.map L).drop ke = (paraGo depth ((xs.map L).drop (at_ + 1))).2.2) := Lib.hid (by rw [HFIN.out])
          have hput := fun W (hW : PSt W base g (some ad) n c ke depth out) => put_any ⟨2, 0, (lv : Nat), false, Lib.trimRightS J [32, 9], []⟩ base g (some ad) n c ke depth out W hW hN
          unfold BlockT.val at hput
          simp only [show (S ([] : List UInt8)) = ⟨#[]⟩ from rfl] at hput
          have HPUT := Lib.hid hput
          clear hjn hokr hJ hput hjl
          generalize S J = SJ at *
          obtain ⟨TT, hTT⟩ : ∃ TT, S (Lib.trimRightS J [32, 9]) = TT := ⟨_, rfl⟩
          rw [hTT] at HTR HPUT
          clear hTT
          go_wp2_with (first
            | (go_at_call 80; refine HJN.out.mono ?_; rintro e w6 ⟨rfl, b6⟩)
            | (go_at_call 67
               refine (HTR.out _).mono ?_
               rintro e w7 ⟨rfl, b7⟩
               have hP7 := (hPe.below b6 (Nat.le_refl _)).below b7 (Nat.le_refl _)
               have hb7 := (hbe.trans (b6.mono hPe.size)).trans (b7.mono (Nat.le_trans hPe.size b6.size))
               have B0 := Blk.new w7 28 #[.int .i64 1, .int .i64 0, .int .i64 0, .bool false, .string TT, .string ⟨#[]⟩]
               have B2 := Blk.new w7 28 #[.int .i64 2, .int .i64 0, .int .i64 (lv : Nat), .bool false, .string TT, .string ⟨#[]⟩])
            | (go_at_call 46; refine (HPUT.out _ (hP7.alloc _)).mono ?_; rintro e w8 ⟨rfl, hP8, b8, _⟩))
          go_end0
          rw [HPB.out]
          exact ⟨ke, rfl, HKEN.out.1, HKEN.out.2, HD.out, hP8, (hb7.alloc hP7.size _).trans b8⟩
        · have hl0 : lv = 0 := by omega
          subst hl0
          obtain ⟨en, hen⟩ : ∃ en, endsT depth (L x) = en := ⟨_, rfl⟩
          rw [hen] at HEN
          cases en
          · have HNEXT : Hid (at_ + 1 ≤ k + 1 → paraGo depth ((xs.map L).drop (at_ + 1)) = (((xs.drop (at_ + 1)).take (k + 1 - (at_ + 1))).map (fun x => restT (L x)) ++ (paraGo depth ((xs.map L).drop (k + 1))).1, (paraGo depth ((xs.map L).drop (k + 1))).2)) := Lib.hid (by
              intro _
              rw [hpg, mid_snoc hka HX.out]
              conv => lhs; unfold paraGo
              rw [hlv, if_neg (by omega), hen]
              simp)
            clear hpg hlv hen h0
            go_upto_region 9 with (first
              | (go_at_call 78; refine (HUN.out _).mono ?_; rintro e w1 ⟨rfl, b1⟩; have hP1 := hP.below b1 (Nat.le_refl _))
              | (go_at_call 79; refine (HEN.out _ hP1).mono ?_; rintro e w2 ⟨rfl, b2⟩))
            have hPn := hP1.below b2 (Nat.le_refl _)
            have hownn := (hown.below b1 (Nat.le_refl _)).below b2 (Nat.le_refl _)
            have hbn := (hb.trans (b1.mono hP.size)).trans (b2.mono hP1.size)
            have hzn : s0 ≤ w2.heap.size := by have := b1.size; have := b2.size; omega
            clear hP hown hb hz hP1 b1 b2 hgl
            have hP := hPn
            have hown := hownn
            have hb := hbn
            have hz := hzn
            clear hPn hownn hbn hzn
            generalize w2 = w0 at *
            obtain ⟨y0, y1, _, y3⟩ := hP.cells
            have HRB : Hid (((xs.drop at_).take (k + 1 - at_)).map restB = ((xs.drop at_).take (k - at_)).map restB ++ [restB x]) := Lib.hid (by rw [HSN.out]; simp)
            generalize restB x = R at *
            go_upto_region 10 with (first
              | (go_at_call 68
                 refine (HTL.out _).mono ?_
                 rintro e w3 ⟨rfl, b3⟩
                 have hP3 := hP.below b3 (Nat.le_refl _)
                 have hown3 := hown.below b3 (Nat.le_refl _)
                 have hb3 := hb.trans (b3.mono hP.size)
                 have hz3 : s0 ≤ w3.heap.size := by have := b3.size; omega)
              | (at_builtin; refine wpList_app1 Tryd.elTexts rfl (.tmp 47) (.tmp 50) rfl rfl (by exact hown3.alloc _) rfl (Blk.new' _ _ _ _ (by simp)) rfl (by simp [Value.oneCell']) (by simp only [maxLen]; omega) (by omega) (by simp; omega) ?_
                 intro A4 c4 w4 hr4 ho4 hm4))
            have hP4 := (hP3.alloc _).only (hown3.alloc _) ho4
            have hb4 := hb3.trans (ho4.of_alloc.below (K := base) (fun a ha => by have := (hown3.lt ha).1; omega) hP3.size)
            have hz4 : s0 ≤ w4.heap.size := by have := ho4.size; simp at this; omega
            clear y0 y1 y3
            obtain ⟨y0, y1, _, y3⟩ := hP4.cells
            obtain ⟨hP5, hb5⟩ := hP4.goto_ (k + 1)
            obtain ⟨cs, hBc⟩ : ∃ cs, Blk w4 g 44 cs := by obtain ⟨_, _, _, _, hB, _⟩ := hP4; exact ⟨_, hB⟩
            have hr5 := hr4.setBlk (i := 1) hBc (by decide) (.int .i64 ((k + 1 : Nat) : Int))
            have HI5 := Lib.hid hP5.intAt
            go_wp2_with fail
            go_roundw
            case rel =>
              refine ⟨k + 1, A4, _, c4, by omega, by omega, ?_, rfl, rfl, ?_, HNEXT.out, by simpa using hP5, by simpa using hb4.trans hb5, by simp [World.setCell]; omega⟩
              · have := HM1.out; omega
              · rw [HRB.out]
                simpa [txCells] using hr5
            case measure =>
              have h1 := HM.out
              have h2 := HI5.out
              simp at h2 ⊢
              rw [h1]
              omega
          · have HFIN : Hid (paraGo depth ((xs.map L).drop (at_ + 1)) = (((xs.drop (at_ + 1)).take (k - (at_ + 1))).map (fun x => restT (L x)), 0, (xs.map L).drop k)) := Lib.hid (by
              rw [hpg]
              conv => lhs; unfold paraGo
              rw [hlv, if_neg (by omega), hen]
              simp [HDK.out])
            clear hpg hlv hen h0
            go_upto_region 11 with (first
              | (go_at_call 78; refine (HUN.out _).mono ?_; rintro e w1 ⟨rfl, b1⟩; have hP1 := hP.below b1 (Nat.le_refl _))
              | (go_at_call 79; refine (HEN.out _ hP1).mono ?_; rintro e w2 ⟨rfl, b2⟩))
            have hPe := hP1.below b2 (Nat.le_refl _)
            have howne := (hown.below b1 (Nat.le_refl _)).below b2 (Nat.le_refl _)
            have hbe := (hb.trans (b1.mono hP.size)).trans (b2.mono hP1.size)
            clear hP hown hb hz hP1 b1 b2 hgl
            generalize w2 = wf at *
            have HKEN : Hid (at_ < k ∧ k ≤ n) := Lib.hid ⟨hka, hk2⟩
            have HRBL : Hid ((((xs.drop at_).take (k - at_)).map restB).map L = restT (L x0) :: ((xs.drop (at_ + 1)).take (k - (at_ + 1))).map fun x => restT (L x)) := Lib.hid (by
              rw [restB_map]
              have hd : xs.drop at_ = x0 :: xs.drop (at_ + 1) := by
                have hal : at_ < xs.length := by rw [HL.out]; exact hat
                rw [List.drop_eq_getElem_cons hal]
                congr 1
                have := HX0.out
                rw [List.getElem?_eq_getElem hal] at this
                exact Option.some.inj this
              rw [hd, show k - at_ = k - (at_ + 1) + 1 by omega, List.take_succ_cons, List.map_cons])
            have hokr : LnOk (((xs.drop at_).take (k - at_)).map restB) := restB_ok fun x hx => HOK.out x (List.mem_of_mem_drop (List.mem_of_mem_take hx))
            have hjn := joinLF_any _ s0 A1 m1 c1 wf howne hm0 hokr (by omega)
            rw [HRBL.out] at hjn
            have hjl : (joinLF (restT (L x0) :: ((xs.drop (at_ + 1)).take (k - (at_ + 1))).map fun x => restT (L x))).length ≤ 140737488355328 := by
              have h1 := joinLF_le ((((xs.drop at_).take (k - at_)).map restB).map L)
              have h2 := join_ok hokr (by rw [List.length_map, List.length_take]; omega)
              rw [HRBL.out] at h1 h2
              omega
            obtain ⟨J, hJ⟩ : ∃ J, joinLF (restT (L x0) :: ((xs.drop (at_ + 1)).take (k - (at_ + 1))).map fun x => restT (L x)) = J := ⟨_, rfl⟩
            rw [hJ] at hjn hjl
            have HJN := Lib.hid hjn
            have HTR : Hid (∀ W, Calls Tryd.prog 67 #[.string (S J), .string ⟨#[32, 9]⟩] W fun e w' => e = .returned (.string (S (Lib.trimRightS J [32, 9]))) ∧ Below W.heap.size W w') := Lib.hid fun W => by
              have := trimRightCs_any (S J) ⟨#[32, 9]⟩ W (by rw [size_S]; omega) (by decide) ascii_blanks
              rwa [L_S, L_lit] at this
            have HPB : Hid (paraB depth (restT (L x0) :: (paraGo depth ((xs.map L).drop (at_ + 1))).1) (paraGo depth ((xs.map L).drop (at_ + 1))).2.1 = ⟨1, (depth : Int), (0 : Nat), false, Lib.trimRightS J [32, 9], []⟩) := Lib.hid (by
              rw [HFIN.out]
              unfold paraB
              simp only [hJ]
              rw [if_neg (by omega)])
            have HD : Hid ((xs.map L).drop k = (paraGo depth ((xs.map L).drop (at_ + 1))).2.2) := Lib.hid (by rw [HFIN.out])
            have hput := fun W (hW : PSt W base g (some ad) n c k depth out) => put_any ⟨1, 0, (0 : Nat), false, Lib.trimRightS J [32, 9], []⟩ base g (some ad) n c k depth out W hW hN
            unfold BlockT.val at hput
            simp only [show (S ([] : List UInt8)) = ⟨#[]⟩ from rfl] at hput
            have HPUT := Lib.hid hput
            clear hjn hokr hJ hput hjl
            generalize S J = SJ at *
            obtain ⟨TT, hTT⟩ : ∃ TT, S (Lib.trimRightS J [32, 9]) = TT := ⟨_, rfl⟩
            rw [hTT] at HTR HPUT
            clear hTT
            go_wp2_with (first
              | (go_at_call 80; refine HJN.out.mono ?_; rintro e w6 ⟨rfl, b6⟩)
              | (go_at_call 67
                 refine (HTR.out _).mono ?_
                 rintro e w7 ⟨rfl, b7⟩
                 have hP7 := (hPe.below b6 (Nat.le_refl _)).below b7 (Nat.le_refl _)
                 have hb7 := (hbe.trans (b6.mono hPe.size)).trans (b7.mono (Nat.le_trans hPe.size b6.size))
                 have B0 := Blk.new w7 28 #[.int .i64 1, .int .i64 0, .int .i64 0, .bool false, .string TT, .string ⟨#[]⟩]
                 have B2 := Blk.new w7 28 #[.int .i64 2, .int .i64 0, .int .i64 (0 : Nat), .bool false, .string TT, .string ⟨#[]⟩])
              | (go_at_call 46; refine (HPUT.out _ (hP7.alloc _)).mono ?_; rintro e w8 ⟨rfl, hP8, b8, _⟩))
            go_end0
            rw [HPB.out]
            exact ⟨k, rfl, HKEN.out.1, HKEN.out.2, HD.out, hP8, (hb7.alloc hP7.size _).trans b8⟩
    · have hkn : k = n := by omega
      have hka : at_ + 1 ≤ k := by omega
      have HFIN : Hid (paraGo depth ((xs.map L).drop (at_ + 1)) = (((xs.drop (at_ + 1)).take (k - (at_ + 1))).map (fun x => restT (L x)), 0, (xs.map L).drop k)) := Lib.hid (by
        rw [HPG.out hka, List.drop_eq_nil_of_le (by rw [List.length_map, HL.out]; omega : ((xs.map L)).length ≤ k)]
        simp [paraGo])
      have HKEN : Hid (at_ < k ∧ k ≤ n) := Lib.hid ⟨hka, hk2⟩
      have hm0 : 0 < m1 := by have := HM1.out; omega
      clear hkn
      go_upto_region 2 with fail
      go_quiet (fail)
      have hPe := hP.drewN nq
      have howne := hown.drewN nq
      have hbe := below_drewN' hb nq
      clear hP hown hb hz hgl e0 e1 e2 ef
      generalize wr.drewN nq = wf at *
      go_upto_region 11 with fail
      have HRBL : Hid ((((xs.drop at_).take (k - at_)).map restB).map L = restT (L x0) :: ((xs.drop (at_ + 1)).take (k - (at_ + 1))).map fun x => restT (L x)) := Lib.hid (by
        rw [restB_map]
        have hd : xs.drop at_ = x0 :: xs.drop (at_ + 1) := by
          have hal : at_ < xs.length := by rw [HL.out]; exact hat
          rw [List.drop_eq_getElem_cons hal]
          congr 1
          have := HX0.out
          rw [List.getElem?_eq_getElem hal] at this
          exact Option.some.inj this
        rw [hd, show k - at_ = k - (at_ + 1) + 1 by omega, List.take_succ_cons, List.map_cons])
      have hokr : LnOk (((xs.drop at_).take (k - at_)).map restB) := restB_ok fun x hx => HOK.out x (List.mem_of_mem_drop (List.mem_of_mem_take hx))
      have hjn := joinLF_any _ s0 A1 m1 c1 wf howne hm0 hokr (by omega)
      rw [HRBL.out] at hjn
      have hjl : (joinLF (restT (L x0) :: ((xs.drop (at_ + 1)).take (k - (at_ + 1))).map fun x => restT (L x))).length ≤ 140737488355328 := by
        have h1 := joinLF_le ((((xs.drop at_).take (k - at_)).map restB).map L)
        have h2 := join_ok hokr (by rw [List.length_map, List.length_take]; omega)
        rw [HRBL.out] at h1 h2
        omega
      obtain ⟨J, hJ⟩ : ∃ J, joinLF (restT (L x0) :: ((xs.drop (at_ + 1)).take (k - (at_ + 1))).map fun x => restT (L x)) = J := ⟨_, rfl⟩
      rw [hJ] at hjn hjl
      have HJN := Lib.hid hjn
      have HTR : Hid (∀ W, Calls Tryd.prog 67 #[.string (S J), .string ⟨#[32, 9]⟩] W fun e w' => e = .returned (.string (S (Lib.trimRightS J [32, 9]))) ∧ Below W.heap.size W w') := Lib.hid fun W => by
        have := trimRightCs_any (S J) ⟨#[32, 9]⟩ W (by rw [size_S]; omega) (by decide) ascii_blanks
        rwa [L_S, L_lit] at this
      have HPB : Hid (paraB depth (restT (L x0) :: (paraGo depth ((xs.map L).drop (at_ + 1))).1) (paraGo depth ((xs.map L).drop (at_ + 1))).2.1 = ⟨1, (depth : Int), (0 : Nat), false, Lib.trimRightS J [32, 9], []⟩) := Lib.hid (by
        rw [HFIN.out]
        unfold paraB
        simp only [hJ]
        rw [if_neg (by omega)])
      have HD : Hid ((xs.map L).drop k = (paraGo depth ((xs.map L).drop (at_ + 1))).2.2) := Lib.hid (by rw [HFIN.out])
      have hput := fun W (hW : PSt W base g (some ad) n c k depth out) => put_any ⟨1, 0, (0 : Nat), false, Lib.trimRightS J [32, 9], []⟩ base g (some ad) n c k depth out W hW hN
      unfold BlockT.val at hput
      simp only [show (S ([] : List UInt8)) = ⟨#[]⟩ from rfl] at hput
      have HPUT := Lib.hid hput
      clear hjn hokr hJ hput hjl
      generalize S J = SJ at *
      obtain ⟨TT, hTT⟩ : ∃ TT, S (Lib.trimRightS J [32, 9]) = TT := ⟨_, rfl⟩
      rw [hTT] at HTR HPUT
      clear hTT
      go_wp2_with (first
        | (go_at_call 80; refine HJN.out.mono ?_; rintro e w6 ⟨rfl, b6⟩)
        | (go_at_call 67
           refine (HTR.out _).mono ?_
           rintro e w7 ⟨rfl, b7⟩
           have hP7 := (hPe.below b6 (Nat.le_refl _)).below b7 (Nat.le_refl _)
           have hb7 := (hbe.trans (b6.mono hPe.size)).trans (b7.mono (Nat.le_trans hPe.size b6.size))
           have B0 := Blk.new w7 28 #[.int .i64 1, .int .i64 0, .int .i64 0, .bool false, .string TT, .string ⟨#[]⟩]
           have B2 := Blk.new w7 28 #[.int .i64 2, .int .i64 0, .int .i64 (0 : Nat), .bool false, .string TT, .string ⟨#[]⟩])
        | (go_at_call 46; refine (HPUT.out _ (hP7.alloc _)).mono ?_; rintro e w8 ⟨rfl, hP8, b8, _⟩))
      go_end0
      rw [HPB.out]
      exact ⟨k, rfl, HKEN.out.1, HKEN.out.2, HD.out, hP8, (hb7.alloc hP7.size _).trans b8⟩
end Go.Proofs.YtommebalgghdjaaDoor
