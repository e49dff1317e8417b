/-
  block: the contract of quote.
-/
import Derived.Test.YtommebalgghdjaaDoorBlockWithin
namespace Go.Proofs.YtommebalgghdjaaDoor
open Go.RowKit
set_option linter.unusedVariables false

theorem PSt.only {w w' : World} {base g n c at_ depth base' m d : Nat} {A B : Option Addr} {out : List BlockT} {ys : List Value} (h : PSt w base g A n c at_ depth out) (hB : Own w base' 9 1 B m d ys) (ho : Only w w' B) : PSt w' base g A n c at_ depth out := by
  obtain ⟨h1, h2, Ao, co, h3, h4⟩ := h
  exact ⟨h1, Nat.le_trans h2 ho.size, Ao, co, h3.only ho (hB.blk_ne h3 (by decide)), h4.only ho (h4.sep_ne hB (by decide))⟩
def quoteB (x : ByteArray) : ByteArray := S ((quoteT (L x)).getD [])
theorem quoteB_map (l : List ByteArray) (h : ∀ x ∈ l, (quoteT (L x)).isSome = true) : (l.map quoteB).map L = (l.map L).filterMap quoteT := by
  induction l with
  | nil => rfl
  | cons x t ih =>
    obtain ⟨r, hr⟩ := Option.isSome_iff_exists.1 (h x (by simp))
    rw [List.map_cons, List.map_cons, ih (fun y hy => h y (by simp [hy])), List.map_cons, List.filterMap_cons, hr]
    simp [quoteB, hr]
theorem quoteB_ok {l : List ByteArray} (h : LnOk l) : LnOk (l.map quoteB) := fun x hx => by
  obtain ⟨y, hy, rfl⟩ := List.mem_map.1 hx
  have h1 := h y hy
  unfold quoteB
  rw [L_S]
  cases hq : quoteT (L y) with
  | none => simp [mu]
  | some r => have := mu_quote hq; simp only [Option.getD_some]; omega

set_option maxHeartbeats 4000000 in
set_option maxRecDepth 100000 in
theorem quote_any' (f depth : Nat) (hf : f ≤ 31) (IH : AllOk f (depth + 1)) (hdp : depth ≤ 1000) (K : Nat) (xs : List ByteArray) (base g : Nat) (A : Option Addr) (n c at_ : Nat) (out : List BlockT) (w : World) (h : PSt w base g A n c at_ depth out)
    (hN : out.length + 64 * (n - at_) ≤ 1099511600000) (hr : Reads w K 1 A n (txCells xs)) (hK : K ≤ base) (hok : LnOk xs) (hn : n ≤ 1048576) (hat : at_ < n) (hnc : n ≤ c) :
    Calls Tryd.prog 49 #[.pointer (some ⟨g, 0, none⟩)] w
      fun e w' => e = .returned (.tuple #[]) ∧ PSt w' base g A n c (at_ + (((xs.map L).drop at_).takeWhile fun x => (quoteT x).isSome).length) depth
        (out ++ ⟨3, depth, 0, false, [], []⟩ :: allT f (depth + 1) ((((xs.map L).drop at_).takeWhile fun x => (quoteT x).isSome).filterMap quoteT)) ∧ Below base w w' := by
  have hlen : xs.length = n := by have := hr.1; simpa using this
  have HL := Lib.hid hlen
  have HOK := Lib.hid hok
  have hbase := h.size
  clear hlen hok
  obtain ⟨ad, rfl, hadK, _⟩ := hr.2 (by omega)
  go_enter Tryd.func49, Tryd.ntmps49
  go_wp2_with fail
  go_loopw [2] (fun s2 wr => ∃ (k : Nat) (A1 : Option Addr) (m1 c1 : Nat), at_ ≤ k ∧ k ≤ n ∧ m1 = k - at_ ∧ s2 = .slice A1 m1 c1 ∧ (∀ j, at_ ≤ j → j < k → ∃ x, xs[j]? = some x ∧ (quoteT (L x)).isSome = true) ∧
    Own wr w.heap.size 9 1 A1 m1 c1 (txCells (((xs.drop at_).take (k - at_)).map quoteB)) ∧ PSt wr base g (some ad) n c k depth out ∧ Below base w wr ∧ w.heap.size ≤ wr.heap.size) (fun _ wr => n - intAt wr ⟨g, 1, none⟩)
  case atStart => exact ⟨at_, none, 0, 0, Nat.le_refl _, Nat.le_of_lt hat, by omega, rfl, fun j h1 h2 => by omega, by simpa using Own.nil _ _ _ _, h, Below.refl _ _, Nat.le_refl _⟩
  case round =>
    obtain ⟨k, A1, m1, c1, hk1, hk2, hm1, rfl, hall, hown, hP, hb, hzw⟩ := hrel
    have HALL := Lib.hid hall
    have HM1 := Lib.hid hm1
    clear hall
    have HM := Lib.hid hP.intAt
    obtain ⟨e0, e1, e2, ef⟩ := hP.cells
    have hgl := hP.lt
    have hmn : m1 ≤ n := by omega
    clear hm1
    by_cases hlt : k < n
    · obtain ⟨ad', u, had', _, hx0, hcx⟩ := (hr.below (hb.mono hK)).at_ hlt
      have had'' : ad = ad' := Option.some.inj had'
      subst had''
      obtain ⟨x, hx, rfl⟩ : ∃ x, xs[k]? = some x ∧ Value.string x = u := by simpa using hx0
      have hxs := HOK.out.size x (List.mem_of_getElem? hx)
      have hadl : ad.block < wr.heap.size := by omega
      have HX := Lib.hid hx
      have HSN := Lib.hid (mid_snoc hk1 hx)
      have HQ := Lib.hid (fun W => quote_any x W hxs)
      clear hx hx0 had'
      go_upto_region 1 with fail
      go_quiet (fail)
      have hP0 := hP.drewN nq
      have hown0 := hown.drewN nq
      have hb0 := below_drewN' hb nq
      have hz0 : w.heap.size ≤ (wr.drewN nq).heap.size := hzw
      have hgl0 := hP0.lt
      have hadl0 : ad.block < (wr.drewN nq).heap.size := hadl
      have hcx0 : (wr.drewN nq).cell? (ad.add k) = some (.string x) := hcx
      have HMM : Hid (intAt (wr.drewN nq) ⟨g, 1, none⟩ = k) := Lib.hid hP0.intAt
      obtain ⟨e0', e1', e2', ef'⟩ := hP0.cells
      clear hP hown hb e0 e1 e2 ef hgl hcx hadl hzw
      generalize wr.drewN nq = w0 at *
      obtain ⟨q, hq⟩ : ∃ q, quoteT (L x) = q := ⟨_, rfl⟩
      have HQX := Lib.hid hq
      rw [hq] at HQ
      clear hq
      cases q with
      | none =>
        unfold quoteV at HQ
        simp only at HQ
        have HEND : Hid (∀ x', xs[k]? = some x' → (quoteT (L x')).isSome = false) := Lib.hid fun x' hx' => by rw [HX.out] at hx'; rw [← Option.some.inj hx', HQX.out]; rfl
        go_upto_region 2 with fail
        go_region_held3 (fun w' => w'.cell? ⟨g, 0, none⟩ = some (.slice (some ad) n c) ∧ w'.cell? ⟨g, 0 + 1, none⟩ = some (.int .i64 (k : Int)) ∧ w'.cell? (ad.add k) = some (.string x)) (go_keep)
          ((go_at_call 72; refine (HQ.out _).mono ?_; rintro e w1 ⟨rfl, b1⟩; have z0 := (b1.cell (p := ⟨g, 0, none⟩) hgl0).trans e0'; have z1 := (b1.cell (p := ⟨g, 0 + 1, none⟩) hgl0).trans e1'; have z2 := (b1.cell (p := ad.add k) (by rw [block_of_add]; exact hadl0)).trans hcx0))
        have b1' := below_of_drew b1
        have hPe := hP0.below b1' (Nat.le_refl _)
        have howne := hown0.below b1' (Nat.le_refl _)
        have hbe := hb0.trans (b1'.mono hP0.size)
        clear hP0 hown0 hb0 z0 z1 z2 b1 b1' e0' e1' e2' ef' hcx0
        have hsp := span_take (p := fun x => (quoteT x).isSome) (xs := xs) hk1 (by rw [HL.out]; exact hk2) HALL.out HEND.out
        obtain ⟨hsp1, hsp2⟩ := hsp
        have hlq : ((xs.drop at_).take (k - at_)).length = k - at_ := mid_len hk1 (by rw [HL.out]; exact hk2)
        have hok2 : LnOk (((xs.drop at_).take (k - at_)).map quoteB) := quoteB_ok fun x hx => HOK.out x (List.mem_of_mem_drop (List.mem_of_mem_take hx))
        have hqm := quoteB_map ((xs.drop at_).take (k - at_)) (fun x hx => by
          obtain ⟨j, hj⟩ := List.mem_iff_getElem?.1 hx
          rw [List.getElem?_take] at hj
          split at hj
          · rw [List.getElem?_drop] at hj
            obtain ⟨x', hx', hp⟩ := HALL.out (at_ + j) (by omega) (by omega)
            rw [hj] at hx'
            rw [Option.some.inj hx']; exact hp
          · cases hj)
        have hwi := fun W (hW : PSt W base g (some ad) n c k depth (out ++ [⟨3, (depth : Int), 0, false, [], []⟩])) (hS : Own W w.heap.size 9 1 A1 m1 c1 (txCells (((xs.drop at_).take (k - at_)).map quoteB))) =>
          within_any f (depth + 1) hf IH W.heap.size (((xs.drop at_).take (k - at_)).map quoteB) A1 m1 c1 base g (some ad) n c k depth (out ++ [⟨3, (depth : Int), 0, false, [], []⟩]) W hW (by rw [List.length_append, List.length_singleton]; have := HM1.out; omega) hS.reads (Nat.le_refl _) hok2 (by omega) hS.cap
        rw [hqm, ← hsp1, show ((depth + 1 : Nat) : Int) = (depth : Int) + 1 by omega] at hwi
        have HWI := Lib.hid hwi
        have HGO : Hid (at_ + (((xs.map L).drop at_).takeWhile fun x => (quoteT x).isSome).length = k) := Lib.hid (by rw [hsp2]; omega)
        have HPUT := Lib.hid (put_any ⟨3, 0, 0, false, [], []⟩ base g (some ad) n c k depth out _ hPe (by omega))
        have hT : (S ([] : List UInt8)) = ⟨#[]⟩ := rfl
        unfold BlockT.val at HPUT
        simp only [hT] at HPUT
        have HAPP : Hid (out ++ ⟨3, (depth : Int), 0, false, [], []⟩ :: allT f (depth + 1) ((((xs.map L).drop at_).takeWhile fun x => (quoteT x).isSome).filterMap quoteT) = out ++ [⟨3, (depth : Int), 0, false, [], []⟩] ++ allT f (depth + 1) ((((xs.map L).drop at_).takeWhile fun x => (quoteT x).isSome).filterMap quoteT)) := Lib.hid (by simp)
        clear hsp1 hsp2 hlq hok2 hqm hwi hT
        go_upto_region 7 with (go_at_call 46; refine HPUT.out.mono ?_; rintro e w5 ⟨rfl, hP5, b5, hk5⟩)
        have hown5 := hk5 _ _ _ _ _ howne
        obtain ⟨v0, v1, v2, _⟩ := hP5.cells
        have hbe5 := hbe.trans b5
        have HW5 := Lib.hid (HWI.out _ hP5 hown5)
        clear HPUT hP5 hown5 hk5 howne hPe hbe
        go_wp2_with (go_at_call 73; refine HW5.out.mono ?_; rintro e w6 ⟨rfl, hP6, b6⟩)
        go_end0
        rw [HGO.out, HAPP.out]
        exact ⟨rfl, hP6, hbe5.trans b6⟩
      | some r =>
        unfold quoteV at HQ
        simp only at HQ
        go_upto_region 2 with fail
        go_region_held3 (fun w' => w'.cell? ⟨g, 0, none⟩ = some (.slice (some ad) n c) ∧ w'.cell? ⟨g, 0 + 1, none⟩ = some (.int .i64 (k : Int)) ∧ w'.cell? (ad.add k) = some (.string x)) (go_keep)
          ((go_at_call 72; refine (HQ.out _).mono ?_; rintro e w1 ⟨rfl, b1⟩; have z0 := (b1.cell (p := ⟨g, 0, none⟩) hgl0).trans e0'; have z1 := (b1.cell (p := ⟨g, 0 + 1, none⟩) hgl0).trans e1'; have z2 := (b1.cell (p := ad.add k) (by rw [block_of_add]; exact hadl0)).trans hcx0))
        have b1' := below_of_drew b1
        have hP1 := hP0.below b1' (Nat.le_refl _)
        have hown1 := hown0.below b1' (Nat.le_refl _)
        have hb1 := hb0.trans (b1'.mono hP0.size)
        have hz1 : w.heap.size ≤ w1.heap.size := by have := b1'.size; omega
        clear hP0 hown0 hb0 z0 z1 z2 b1 b1' e0' e1' e2' ef' hcx0
        have hQB : Hid (quoteB x = S r) := Lib.hid (by unfold quoteB; rw [HQX.out]; rfl)
        generalize S r = R at *
        go_upto_region 5 with (at_builtin; refine wpList_app1 Tryd.elTexts rfl (.tmp 31) (.tmp 33) rfl rfl (by exact hown1.alloc _) rfl (Blk.new' _ _ _ _ (by simp)) rfl (by simp [Value.oneCell']) (by simp only [maxLen]; omega) (by omega) (by simp; omega) ?_
                               intro A2 c2 w2 hr2 ho2 hm2)
        have hP2 := (hP1.alloc _).only (hown1.alloc _) ho2
        have hb2 := hb1.trans (ho2.of_alloc.below (K := base) (fun a ha => by have := (hown1.lt ha).1; omega) hP1.size)
        have hz2 : w.heap.size ≤ w2.heap.size := by have := ho2.size; simp at this; omega
        obtain ⟨y0, y1, _, y3⟩ := hP2.cells
        obtain ⟨hP3, hb3⟩ := hP2.goto_ (k + 1)
        obtain ⟨_, _, _, _, hB2, _⟩ := hP2
        have hr3 := hr2.setBlk (i := 1) hB2 (by decide) (.int .i64 ((k + 1 : Nat) : Int))
        go_wp2_with fail
        go_roundw
        case rel =>
          refine ⟨k + 1, A2, m1 + 1, c2, by omega, by omega, by have := HM1.out; omega, rfl, fun j h1 h2 => ?_, ?_, by simpa using hP3, by simpa using hb2.trans hb3, by simp [World.setCell]; omega⟩
          · rcases Nat.lt_or_ge j k with h | h
            · exact HALL.out j h1 h
            · rw [show j = k by omega]; exact ⟨x, HX.out, by rw [HQX.out]; rfl⟩
          · rw [HSN.out, List.map_append, List.map_singleton, hQB.out]
            have := hr3
            simpa [txCells] using this
        case measure =>
          have h1 := HM.out
          have h2 := hP3.intAt
          simp at h2 ⊢
          rw [h1]
          omega
    · have HEND : Hid (∀ x', xs[k]? = some x' → (quoteT (L x')).isSome = false) := Lib.hid fun x' hx' => by
        have := (List.getElem?_eq_some_iff.1 hx').1
        rw [HL.out] at this; omega
      go_upto_region 1 with fail
      go_quiet (fail)
      have hPe := hP.drewN nq
      have howne := hown.drewN nq
      have hbe := below_drewN' hb nq
      clear hP hown hb e0 e1 e2 ef
      generalize wr.drewN nq = w1 at *
      have hsp := span_take (p := fun x => (quoteT x).isSome) (xs := xs) hk1 (by rw [HL.out]; exact hk2) HALL.out HEND.out
      obtain ⟨hsp1, hsp2⟩ := hsp
      have hlq : ((xs.drop at_).take (k - at_)).length = k - at_ := mid_len hk1 (by rw [HL.out]; exact hk2)
      have hok2 : LnOk (((xs.drop at_).take (k - at_)).map quoteB) := quoteB_ok fun x hx => HOK.out x (List.mem_of_mem_drop (List.mem_of_mem_take hx))
      have hqm := quoteB_map ((xs.drop at_).take (k - at_)) (fun x hx => by
        obtain ⟨j, hj⟩ := List.mem_iff_getElem?.1 hx
        rw [List.getElem?_take] at hj
        split at hj
        · rw [List.getElem?_drop] at hj
          obtain ⟨x', hx', hp⟩ := HALL.out (at_ + j) (by omega) (by omega)
          rw [hj] at hx'
          rw [Option.some.inj hx']; exact hp
        · cases hj)
      have hwi := fun W (hW : PSt W base g (some ad) n c k depth (out ++ [⟨3, (depth : Int), 0, false, [], []⟩])) (hS : Own W w.heap.size 9 1 A1 m1 c1 (txCells (((xs.drop at_).take (k - at_)).map quoteB))) =>
        within_any f (depth + 1) hf IH W.heap.size (((xs.drop at_).take (k - at_)).map quoteB) A1 m1 c1 base g (some ad) n c k depth (out ++ [⟨3, (depth : Int), 0, false, [], []⟩]) W hW (by rw [List.length_append, List.length_singleton]; have := HM1.out; omega) hS.reads (Nat.le_refl _) hok2 (by omega) hS.cap
      rw [hqm, ← hsp1, show ((depth + 1 : Nat) : Int) = (depth : Int) + 1 by omega] at hwi
      have HWI := Lib.hid hwi
      have HGO : Hid (at_ + (((xs.map L).drop at_).takeWhile fun x => (quoteT x).isSome).length = k) := Lib.hid (by rw [hsp2]; omega)
      have HPUT := Lib.hid (put_any ⟨3, 0, 0, false, [], []⟩ base g (some ad) n c k depth out _ hPe (by omega))
      have hT : (S ([] : List UInt8)) = ⟨#[]⟩ := rfl
      unfold BlockT.val at HPUT
      simp only [hT] at HPUT
      have HAPP : Hid (out ++ ⟨3, (depth : Int), 0, false, [], []⟩ :: allT f (depth + 1) ((((xs.map L).drop at_).takeWhile fun x => (quoteT x).isSome).filterMap quoteT) = out ++ [⟨3, (depth : Int), 0, false, [], []⟩] ++ allT f (depth + 1) ((((xs.map L).drop at_).takeWhile fun x => (quoteT x).isSome).filterMap quoteT)) := Lib.hid (by simp)
      clear hsp1 hsp2 hlq hok2 hqm hwi hT
      go_upto_region 7 with (go_at_call 46; refine HPUT.out.mono ?_; rintro e w5 ⟨rfl, hP5, b5, hk5⟩)
      have hown5 := hk5 _ _ _ _ _ howne
      obtain ⟨v0, v1, v2, _⟩ := hP5.cells
      have hbe5 := hbe.trans b5
      have HW5 := Lib.hid (HWI.out _ hP5 hown5)
      clear HPUT hP5 hown5 hk5 howne hPe hbe
      go_wp2_with (go_at_call 73; refine HW5.out.mono ?_; rintro e w6 ⟨rfl, hP6, b6⟩)
      go_end0
      rw [HGO.out, HAPP.out]
      exact ⟨rfl, hP6, hbe5.trans b6⟩
end Go.Proofs.YtommebalgghdjaaDoor
