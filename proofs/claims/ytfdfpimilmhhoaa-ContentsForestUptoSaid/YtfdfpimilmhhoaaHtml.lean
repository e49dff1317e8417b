/-
  contents.Html: its contract: the table of contents.
-/
import Derived.Test.YtfdfpimilmhhoaaDepths
import Derived.Test.YtfdfpimilmhhoaaEntry
namespace Go.Proofs.Ytfdfpimilmhhoaa
open Go.RowKit

abbrev secCells (l : List Sec) : List Value := l.flatMap Sec.cells
theorem secCells_length (l : List Sec) : (secCells l).length = l.length * 4 := by
  induction l with
  | nil => rfl
  | cons x l ih => simp only [secCells, List.flatMap_cons, List.length_append, List.length_cons] at *; rw [ih]; simp [Sec.cells]; omega
theorem secCells_get (l : List Sec) (k j : Nat) (hj : j < 4) {x : Sec} (hx : l[k]? = some x) : (secCells l)[k * 4 + j]? = x.cells[j]? := by
  induction l generalizing k with
  | nil => simp at hx
  | cons y l ih =>
    simp only [secCells, List.flatMap_cons] at *
    have hy : y.cells.length = 4 := rfl
    rcases k with _ | k
    · simp at hx; subst hx
      rw [List.getElem?_append_left (by rw [hy]; omega)]; simp
    · rw [List.getElem?_append_right (by rw [hy]; omega), hy, show (k + 1) * 4 + j - 4 = k * 4 + j by omega]
      exact ih k (by simpa using hx)

def keepTo (depth : Int) (l : List Sec) : List Sec := l.filter (fun x => decide (x.level ≤ depth))

def navEnd : List UInt8 := [60, 47, 117, 108, 62, 10, 60, 47, 108, 105, 62, 10]
def navItem (numbers : Bool) (l : List Sec) (deep : List Nat) (i : Nat) : List UInt8 :=
  match l[i]? with
  | none => []
  | some x => entryT x numbers ++ (if i + 1 < l.length ∧ deep.getD i 0 < deep.getD (i + 1) 0 then [10, 60, 117, 108, 62, 10] else [60, 47, 108, 105, 62, 10] ++ (List.replicate (deep.getD i 0 - deep.getD (i + 1) 0) navEnd).flatten)
def navTo (numbers : Bool) (l : List Sec) (deep : List Nat) (k : Nat) : List UInt8 := [60, 110, 97, 118, 62, 10, 60, 117, 108, 62, 10] ++ (List.range k).flatMap (navItem numbers l deep)
def htmlT (l : List Sec) (numbers : Bool) : List UInt8 :=
  if l = [] then [] else navTo numbers l (dpDepths [] (l.map Sec.level) ++ [0]) l.length ++ [60, 47, 117, 108, 62, 10, 60, 47, 110, 97, 118, 62, 10]
theorem navTo_succ (numbers : Bool) (l : List Sec) (deep : List Nat) (k : Nat) : navTo numbers l deep (k + 1) = navTo numbers l deep k ++ navItem numbers l deep k := by
  simp [navTo, List.range_succ, List.flatMap_append]

theorem entryT_le (x : Sec) (numbers : Bool) : (entryT x numbers).length ≤ 23 + x.anchor.size + 6 * x.number.size + 6 * x.text.size := by
  have h1 := esc_le (L x.number)
  have h2 := esc_le (L x.text)
  simp only [length_L] at h1 h2
  cases numbers <;> simp [entryT] <;> omega
theorem dpDepths_le (zs : List Int) : ∀ st, ∀ x ∈ dpDepths st zs, x ≤ st.length + zs.length := by
  induction zs with
  | nil => intro st x hx; simp [dpDepths] at hx
  | cons z zs ih =>
    intro st x hx
    have hp := popTo_length z st
    simp only [dpDepths, List.mem_cons] at hx
    rcases hx with rfl | hx
    · simp; omega
    · have := ih _ x hx; simp at this ⊢; omega
theorem nats_get {dp : List Nat} {j m : Nat} (h : dp.length = m) (hj : j < m) : (nats dp)[j]? = some (.int .i64 (dp.getD j 0 : Nat)) := by
  have : j < dp.length := by omega
  simp [List.getElem?_eq_getElem this]
theorem dp_last {zs : List Int} {dp : List Nat} {m : Nat} (h : dpDepths [] zs ++ [0] = dp) (hm : zs.length = m) : dp.getD m 0 = 0 := by
  subst h; subst hm
  simp [dpDepths_length]
theorem dp_le {zs : List Int} {dp : List Nat} (h : dpDepths [] zs ++ [0] = dp) (j : Nat) : dp.getD j 0 ≤ zs.length := by
  subst h
  rw [List.getD_eq_getElem?_getD]
  rcases hj : (dpDepths [] zs ++ [0])[j]? with _ | x
  · simp
  · have hm := List.mem_of_getElem? hj
    simp only [List.mem_append, List.mem_singleton] at hm
    rcases hm with hm | rfl
    · have := dpDepths_le zs [] x hm; simpa using this
    · simp

theorem keepTo_yes {depth : Int} {l : List Sec} {k : Nat} {x : Sec} (hx : l[k]? = some x) (h : x.level ≤ depth) : keepTo depth (l.take (k + 1)) = keepTo depth (l.take k) ++ [x] := by
  simp [keepTo, List.take_add_one, hx, List.filter_append, h]
theorem keepTo_no {depth : Int} {l : List Sec} {k : Nat} {x : Sec} (hx : l[k]? = some x) (h : ¬ x.level ≤ depth) : keepTo depth (l.take (k + 1)) = keepTo depth (l.take k) := by
  simp [keepTo, List.take_add_one, hx, List.filter_append, h]
theorem Try.infoSec : (Try.prog.info? 26).map (fun i => (i.zero, i.size, i.bytes)) = some (some (.agg #[.int .i64 0, .string ⟨#[]⟩, .string ⟨#[]⟩, .string ⟨#[]⟩]), 4, 56) := by kernel_rfl
theorem Try.elSecs : Elem Try.prog 23 26 4 56 := Elem.mk' Try.underlying23 Try.infoSec rfl (by decide)

set_option maxHeartbeats 2000000 in
set_option maxRecDepth 100000 in
theorem html_any (A : Option Addr) (n c : Nat) (l : List Sec) (depth : Int) (numbers : Bool) (w : World) (hr : Reads w w.heap.size 4 A n (secCells l)) (hn : n ≤ 1048576) (hsz : ∀ x ∈ l, x.number.size + x.anchor.size + x.text.size ≤ 1048576) :
    Calls Try.prog 13 #[.slice A n c, .int .i64 depth, .bool numbers] w fun e w' => e = .returned (.string (S (htmlT (keepTo depth l) numbers))) ∧ Below w.heap.size w w' := by
  have hlen : l.length = n := by have := hr.1; rw [secCells_length] at this; omega
  have HL := Lib.hid hlen
  clear hlen
  go_enter Try.func13, Try.ntmps13
  go_wp2
  go_loopw [7, 8, 17] (fun out st i wr => ∃ (k : Nat) (A1 A2 : Option Addr) (c1 c2 : Nat), k ≤ n ∧ i = .int .i64 k ∧ out = .slice A1 (keepTo depth (l.take k)).length c1 ∧ st = .slice A2 (keepTo depth (l.take k)).length c2 ∧
      Own wr w.heap.size 26 4 A1 (keepTo depth (l.take k)).length c1 (secCells (keepTo depth (l.take k))) ∧
      Own wr w.heap.size 3 1 A2 (keepTo depth (l.take k)).length c2 (ints ((keepTo depth (l.take k)).map Sec.level)) ∧ Below w.heap.size w wr)
    (fun _ _ i _ => n - (intOf i).toNat)
  case atStart => exact ⟨0, none, none, 0, 0, Nat.zero_le _, rfl, rfl, rfl, Own.nil _ _ _ _, Own.nil _ _ _ _, Below.refl _ _⟩
  case round =>
    obtain ⟨k, A1, A2, c1, c2, hk, rfl, rfl, rfl, hown, hst, hb⟩ := hrel
    by_cases hlt : k < n
    · obtain ⟨x, hx⟩ : ∃ x, l[k]? = some x := ⟨_, List.getElem?_eq_getElem (by rw [HL.out]; omega)⟩
      obtain ⟨ad, rfl, hab, hc0, hcj⟩ := (hr.below hb).elem hlt
      have g0 := hc0 _ (by rw [← Nat.add_zero (k * 4), secCells_get l k 0 (by omega) hx]; rfl)
      have g1 := hcj 1 _ (by omega) (by rw [secCells_get l k 1 (by omega) hx]; rfl)
      have g2 := hcj 2 _ (by omega) (by rw [secCells_get l k 2 (by omega) hx]; rfl)
      have g3 := hcj 3 _ (by omega) (by rw [secCells_get l k 3 (by omega) hx]; rfl)
      clear hc0 hcj
      have hkl : (keepTo depth (l.take k)).length ≤ k := Nat.le_trans (List.length_filter_le _ _) (List.length_take_le _ _)
      have hbs := hb.size
      have HX := Lib.hid hx
      clear hx
      by_cases hle : x.level ≤ depth
      · have HK := Lib.hid (keepTo_yes HX.out hle)
        generalize keepTo depth (l.take k) = kl at *
        have X0 : Blk (wr.alloc (.cells #[.int .i64 x.level, .string x.number, .string x.anchor, .string x.text] 26)) wr.heap.size 26 #[.int .i64 x.level, .string x.number, .string x.anchor, .string x.text] := Blk.new _ _ _
        go_wp2_with (first
          | (at_builtin; refine wpList_app1 Try.elSecs rfl (.tmp 25) (.tmp 27) rfl rfl ((hown.alloc _).alloc _) rfl (Blk.new' _ _ _ _ (by simp)) rfl (by simp [Value.oneCell']) (by simp only [maxLen]; omega) (by omega) (by simp; omega) ?_
             intro A1' c1' w1 hown1 ho1 hm1
             have ho1' := ho1.of_alloc.of_alloc
             have hst1 := ((hst.alloc _).alloc _).only ho1 (hst.sep_ne hown (by decide))
             have X1 := (X0.alloc _).only ho1 (fun a ha => by have := (hown.lt ha).2; omega)
             have d0 : w1.cell? ⟨wr.heap.size, 0, none⟩ = some (.int .i64 x.level) := X1.cell 0
             have hb1 : Below w.heap.size w w1 := hb.trans (ho1'.below (fun a ha => (hown.lt ha).1) hbs)
             have hbs1 := hb1.size)
          | (at_builtin; refine wpList_app1 Try.elInts rfl (.tmp 29) (.tmp 32) rfl rfl (hst1.alloc _) rfl (Blk.new' _ _ _ _ (by simp)) rfl (by simp [Value.oneCell']) (by simp only [maxLen]; omega) (by omega) (by simp; omega) ?_
             intro A2' c2' w2 hst2 ho2 hm2
             have ho2' := ho2.of_alloc
             have hown2 := (hown1.alloc _).only ho2 (hown1.sep_ne hst1 (by decide))
             have hb2 : Below w.heap.size w w2 := hb1.trans (ho2'.below (fun a ha => (hst1.lt ha).1) hbs1)))
        go_roundw
        case rel =>
          have hl1 : (kl ++ [x]).length = kl.length + 1 := by simp
          refine ⟨k + 1, A1', A2', c1', c2', by omega, by go_num, ?_, ?_, ?_, ?_, hb2⟩
          · rw [HK.out, hl1]
          · rw [HK.out, hl1]
          · rw [HK.out, hl1]; simpa [secCells, Sec.cells] using hown2
          · rw [HK.out, hl1]; simpa using hst2
        case measure => simp [intOf]; omega
      · have HK := Lib.hid (keepTo_no HX.out hle)
        generalize keepTo depth (l.take k) = kl at *
        go_wp2_with fail
        go_roundw
        case rel => exact ⟨k + 1, A1, A2, c1, c2, by omega, by go_num, by rw [HK.out], by rw [HK.out], by rw [HK.out]; exact hown.alloc _, by rw [HK.out]; exact hst.alloc _, hb.alloc hbs _⟩
        case measure => simp [intOf]; omega
    · have hkn : k = n := by omega
      subst hkn
      have hz : l.take k = l := by rw [List.take_of_length_le (by rw [HL.out]; omega)]
      rw [hz] at hown hst ⊢
      have hkk : (keepTo depth l).length ≤ k := by rw [← HL.out]; exact List.length_filter_le _ _
      have hsz' : ∀ x ∈ keepTo depth l, x.number.size + x.anchor.size + x.text.size ≤ 1048576 := fun x hx => hsz x (List.mem_filter.1 hx).1
      have hbs := hb.size
      clear hr HL hk hlt hz hsz
      generalize hkl : keepTo depth l = kl at *
      have HKL := Lib.hid hkl
      clear hkl
      rcases Nat.eq_zero_or_pos kl.length with h0 | h0
      · have hk0 : kl = [] := List.eq_nil_of_length_eq_zero h0
        subst hk0
        go_wp2_with fail
        go_ret
        exact ⟨by rw [HKL.out]; rfl, hb⟩
      · have hne : ((kl.length : Int) == 0) = false := beq_eq_false_iff_ne.2 (by omega)
        go_wp2_with fail
        refine (depths_any A2 kl.length c2 (kl.map Sec.level) wr hst.reads (by omega)).mono ?_
        rintro e w1 ⟨A3, c3, rfl, hd1, hb1⟩
        have hs1 := hown.below hb1 (Nat.le_refl _)
        have bb1 := hb.trans (hb1.mono hbs)
        have hbs1 := hb1.size
        clear hb1 hst
        have hA3 : ∀ a, A3 = some a → w.heap.size ≤ a.block := fun a ha => Nat.le_trans hbs (hd1.lt ha).1
        go_wp2_with (at_builtin; refine wpList_app1 Try.elInts rfl (.tmp 39) (.tmp 40) rfl rfl (hd1.alloc _) rfl (Blk.new' _ _ _ _ rfl) rfl (by simp [Value.oneCell']) (by simp only [maxLen]; omega) (by omega) (by simp; omega) ?_
                     intro A3' c3' w2 hd2 ho2 hm2
                     have ho2' := ho2.of_alloc
                     have hs2 := (hs1.alloc _).only ho2 (hs1.sep_ne hd1 (by decide))
                     have bb2 := bb1.trans (ho2'.below hA3 (by omega))
                     have hbs2 := bb2.size)
        clear hd1 hs1 bb1 hbs1 hA3 ho2 hm2 ho2'
        have hdl : nats (dpDepths [] (kl.map Sec.level)) ++ [Value.int .i64 0] = nats (dpDepths [] (kl.map Sec.level) ++ [0]) := by simp
        rw [hdl] at hd2
        have hdlen : (dpDepths [] (kl.map Sec.level) ++ [0]).length = kl.length + 1 := by simp [dpDepths_length]
        generalize hdp : dpDepths [] (kl.map Sec.level) ++ [0] = dp at *
        have HDP := Lib.hid hdp
        have HDL := Lib.hid hdlen
        clear hdl hdp hdlen
        refine (writeString_any w2.heap.size w2.heap.size [] _ _ (Bld.new w2) (by simp) (by simp)).mono ?_
        rintro e w3 ⟨rfl, hB, b3, k3⟩
        have hs3 := (hs2.alloc (.cells #[.pointer none, .slice none 0 0] 69)).others (Bld.new w2) k3 (by decide) (by decide)
        have hd3 := (hd2.alloc (.cells #[.pointer none, .slice none 0 0] 69)).others (Bld.new w2) k3 (by decide) (by decide)
        have bb3 := (bb2.alloc hbs2 (.cells #[.pointer none, .slice none 0 0] 69)).trans (b3.mono hbs2)
        clear hs2 hd2 bb2 b3 k3
        generalize w2.heap.size = g at *
        obtain ⟨g1, hg1, _, _⟩ := hs3.some_ h0
        obtain ⟨g3, hg3, _, _⟩ := hd3.some_ (by omega)
        subst hg1
        subst hg3
        clear hown
        have hd3 := hd3.base_le hbs
        go_wp2_with fail
        go_loopw [45] (fun i wr => ∃ j : Nat, j ≤ kl.length ∧ i = .int .i64 j ∧ Bld g g (navTo numbers kl dp j) wr ∧ (navTo numbers kl dp j).length ≤ 11 + j * 20971584 ∧ Own wr w.heap.size 26 4 (some ⟨g1, 0, none⟩) kl.length c1 (secCells kl) ∧
            Own wr w.heap.size 3 1 (some ⟨g3, 0, none⟩) (kl.length + 1) c3' (nats dp) ∧ Below w.heap.size w wr)
          (fun i _ => kl.length - (intOf i).toNat)
        case atStart => exact ⟨0, Nat.zero_le _, rfl, hB, by simp [navTo], hs3, hd3, bb3⟩
        case round =>
          clear hB hs3 hd3 bb3
          obtain ⟨j, hj, rfl, hB, hlen, hs, hd, hb⟩ := hrel
          by_cases hlt : j < kl.length
          · obtain ⟨x, hx⟩ : ∃ x, kl[j]? = some x := ⟨_, List.getElem?_eq_getElem hlt⟩
            have hxs := hsz' x (List.mem_of_getElem? hx)
            have s0 := hs.cell (j := j * 4) (by rw [← Nat.add_zero (j * 4), secCells_get kl j 0 (by omega) hx]; rfl)
            have s1 := hs.cell (j := j * 4 + 1) (by rw [secCells_get kl j 1 (by omega) hx]; rfl)
            have s2 := hs.cell (j := j * 4 + 2) (by rw [secCells_get kl j 2 (by omega) hx]; rfl)
            have s3 := hs.cell (j := j * 4 + 3) (by rw [secCells_get kl j 3 (by omega) hx]; rfl)
            have hbs' := hb.size
            have HX := Lib.hid hx
            clear hx
            go_wp2_with fail
            refine (entry_any x numbers _ (by omega) (by omega) (by omega)).mono ?_
            rintro e w4 ⟨rfl, b4⟩
            have hB4 := (hB.alloc _).below b4 (Nat.le_refl _)
            have hs4 := (hs.alloc _).below b4 (Nat.le_refl _)
            have hd4 := (hd.alloc _).below b4 (Nat.le_refl _)
            have bb4 := (hb.alloc hbs' _).trans (b4.mono (by simp; omega))
            have hbs4 := bb4.size
            clear b4 hB hs hd hb s0 s1 s2 s3 hbs'
            have hel : (entryT x numbers).length ≤ 6291600 := by have := entryT_le x numbers; omega
            go_wp2_with fail
            refine (writeString_any g g _ _ _ hB4 (by simp; omega) (Nat.le_of_lt hB4.lt)).mono ?_
            rintro e w5 ⟨rfl, hB5, b5, k5⟩
            have hs5 := hs4.others hB4 k5 (by decide) (by decide)
            have hd5 := hd4.others hB4 k5 (by decide) (by decide)
            have bb5 := bb4.trans (b5.mono hbs2)
            have hbs5 := bb5.size
            have t0 := hd5.cell (j := j) (u := .int .i64 (dp.getD j 0 : Nat)) (nats_get HDL.out (by omega))
            have t1 := hd5.cell (j := j + 1) (u := .int .i64 (dp.getD (j + 1) 0 : Nat)) (nats_get HDL.out (by omega))
            clear hB4 hs4 hd4 bb4 k5 b5
            generalize hd0 : dp.getD j 0 = p0 at *
            generalize hd1 : dp.getD (j + 1) 0 = p1 at *
            have HP0 := Lib.hid hd0
            have HP1 := Lib.hid hd1
            clear hd0 hd1
            have q1 : IntKind.i64.wrap ((j : Int) + 1) = (j : Int) + 1 := IntWalk.i64_in _ (by omega)
            have q2 : ((j : Int) + 1).toNat = j + 1 := by omega
            have q3 : 0 ≤ (j : Int) + 1 := by omega
            have hcase : (j + 1 < kl.length ∧ p0 < p1) ∨ ¬ (j + 1 < kl.length ∧ p0 < p1) := Decidable.em _
            have hitem : navItem numbers kl dp j = entryT x numbers ++ (if j + 1 < kl.length ∧ p0 < p1 then [10, 60, 117, 108, 62, 10] else [60, 47, 108, 105, 62, 10] ++ (List.replicate (p0 - p1) navEnd).flatten) := by
              simp only [navItem, HX.out, HP0.out, HP1.out]
            have HI := Lib.hid hitem
            clear hitem
            rcases hcase with ⟨hj1, hgt⟩ | hno
            · have q4 : decide ((j : Int) + 1 < (kl.length : Int)) = true := decide_eq_true (by omega)
              go_wp2_with fail
              go_quiet (fail)
              have hB6 := hB5.drewN nq
              have hs6 := hs5.drewN nq
              have hd6 := hd5.drewN nq
              have bb6 := below_drewN' bb5 nq
              clear q1 q2 q3 q4 hB5 hs5 hd5 bb5 t0 t1
              generalize w5.drewN nq = w6 at *
              go_wp2_with fail
              refine (writeString_any g g _ _ _ hB6 (by simp; omega) (Nat.le_of_lt hB6.lt)).mono ?_
              rintro e w7 ⟨rfl, hB7, b7, k7⟩
              have hs7 := hs6.others hB6 k7 (by decide) (by decide)
              have hd7 := hd6.others hB6 k7 (by decide) (by decide)
              have bb7 := bb6.trans (b7.mono hbs2)
              clear b7 k7 hB6 hs6 hd6 bb6
              go_wp2_with fail
              go_roundw
              case rel =>
                have hnx : navTo numbers kl dp j ++ L (S (entryT x numbers)) ++ L ⟨#[10, 60, 117, 108, 62, 10]⟩ = navTo numbers kl dp (j + 1) := by
                  rw [navTo_succ, HI.out, if_pos ⟨hj1, hgt⟩, L_S, L_lit, List.append_assoc]
                rw [hnx] at hB7
                refine ⟨j + 1, by omega, by go_num, hB7, ?_, hs7, hd7, bb7⟩
                rw [← hnx]; simp; omega
              case measure => simp [intOf]; omega
            · have q4 : j + 1 < kl.length → decide ((j : Int) + 1 < (kl.length : Int)) = true := fun h => decide_eq_true (by omega)
              have hle : p1 ≤ p0 := by
                by_cases h : j + 1 < kl.length
                · have : ¬ p0 < p1 := fun h' => hno ⟨h, h'⟩
                  omega
                · have h0 := dp_last HDP.out (m := j + 1) (by simp; omega)
                  rw [HP1.out] at h0; omega
              have hp0 : p0 ≤ kl.length := by have := dp_le HDP.out j; rw [HP0.out] at this; simpa using this
              have hlow : (decide ((j : Int) + 1 < (kl.length : Int)) = true ∧ ¬ p0 < p1) ∨ decide ((j : Int) + 1 < (kl.length : Int)) = false := by
                by_cases h : j + 1 < kl.length
                · exact .inl ⟨decide_eq_true (by omega), fun h' => hno ⟨h, h'⟩⟩
                · exact .inr (decide_eq_false (by omega))
              clear q4
              rcases hlow with ⟨q4, hgt⟩ | q4
              all_goals
                go_wp2_with fail
                go_quiet (fail)
                have hB6 := hB5.drewN nq
                have hs6 := hs5.drewN nq
                have hd6 := hd5.drewN nq
                have bb6 := below_drewN' bb5 nq
                clear q4 hB5 hs5 hd5 bb5 t0 t1
                generalize w5.drewN nq = w6 at *
                go_wp2_with fail
                refine (writeString_any g g _ _ _ hB6 (by simp; omega) (Nat.le_of_lt hB6.lt)).mono ?_
                rintro e w7 ⟨rfl, hB7, b7, k7⟩
                have hs7 := hs6.others hB6 k7 (by decide) (by decide)
                have hd7 := hd6.others hB6 k7 (by decide) (by decide)
                have bb7 := bb6.trans (b7.mono hbs2)
                have t0 := hd7.cell (j := j) (u := .int .i64 (p0 : Nat)) (by rw [← HP0.out]; exact nats_get HDL.out (by omega))
                have t1 := hd7.cell (j := j + 1) (u := .int .i64 (p1 : Nat)) (by rw [← HP1.out]; exact nats_get HDL.out (by omega))
                clear b7 k7 hB6 hs6 hd6 bb6
                go_wp2_with fail
                have q5 : IntKind.i64.wrap ((p0 : Int) - (p1 : Int)) = (p0 : Int) - (p1 : Int) := IntWalk.i64_in _ (by omega)
                have hji : (j : Int) < (kl.length : Int) + 1 := by omega
                have ht7 : Hid (navTo numbers kl dp j ++ L (S (entryT x numbers)) ++ L ⟨#[60, 47, 108, 105, 62, 10]⟩ ++ (List.replicate (p0 - p1) navEnd).flatten = navTo numbers kl dp (j + 1)) := by
                  refine Lib.hid ?_
                  rw [navTo_succ, HI.out, if_neg hno, L_S, L_lit]
                  simp only [List.append_assoc]
                have hal : (navTo numbers kl dp j ++ L (S (entryT x numbers)) ++ L ⟨#[60, 47, 108, 105, 62, 10]⟩).length ≤ 11 + j * 20971584 + 6291600 + 6 := by simp; omega
                generalize navTo numbers kl dp j ++ L (S (entryT x numbers)) ++ L ⟨#[60, 47, 108, 105, 62, 10]⟩ = acc at *
                go_region_with (go_at_call 34; refine (repeat_any _ _ _ (by omega) (by simp; omega) (by omega)).mono ?_; rintro e w8 ⟨rfl, b8⟩)
                all_goals
                  have hB8 := (hB7.drew.below b8 (Nat.le_refl _)).alloc (.stringIter (S (Lib.repeatL (L ⟨#[47]⟩) (p0 - p1))) 0)
                  have hs8 := (hs7.drew.below b8 (Nat.le_refl _)).alloc (.stringIter (S (Lib.repeatL (L ⟨#[47]⟩) (p0 - p1))) 0)
                  have hd8 := (hd7.drew.below b8 (Nat.le_refl _)).alloc (.stringIter (S (Lib.repeatL (L ⟨#[47]⟩) (p0 - p1))) 0)
                  have bb8 := ((bb7.drew.trans (b8.mono (by simp; exact bb7.size))).alloc (by have := bb7.size; have := b8.size; simp at this; omega) (.stringIter (S (Lib.repeatL (L ⟨#[47]⟩) (p0 - p1))) 0))
                  have hit := World.iter_heap w8 (S (Lib.repeatL (L ⟨#[47]⟩) (p0 - p1))) 0
                  have hgq : g < w8.heap.size := (hB7.drew.below b8 (Nat.le_refl _)).lt
                  clear hB7 hs7 hd7 bb7 t0 t1 b8 q5
                  have hsl : Lib.repeatL (L ⟨#[47]⟩) (p0 - p1) = List.replicate (p0 - p1) 47 := repeatL_one 47 _
                  rw [hsl] at hB8 hs8 hd8 bb8 hit ⊢
                  generalize hd : p0 - p1 = d at *
                  have hdk : d ≤ kl.length := by omega
                  have HD := Lib.hid hd
                  clear hd hsl hle hno
                  go_wp2_with fail
                  generalize w8.heap.size = q at *
                  have hsd : (S (List.replicate d 47)).size = d := by simp
                  have HSD := Lib.hid hsd
                  clear hsd hji
                  go_loopw [] (fun wr => ∃ pos : Nat, pos ≤ d ∧ Bld g g (acc ++ (List.replicate pos navEnd).flatten) wr ∧ wr.heap[q]? = some (.stringIter (S (List.replicate d 47)) pos) ∧ Own wr w.heap.size 26 4 (some ⟨g1, 0, none⟩) kl.length c1 (secCells kl) ∧
                      Own wr w.heap.size 3 1 (some ⟨g3, 0, none⟩) (kl.length + 1) c3' (nats dp) ∧ Below w.heap.size w wr)
                    (fun wr => d - wr.iterPos q)
                  case atStart => exact ⟨0, Nat.zero_le _, by rw [List.replicate_zero, List.flatten_nil, List.append_nil]; exact hB8, hit, hs8, hd8, bb8⟩
                  case round =>
                    clear hB8 hit hs8 hd8 bb8
                    obtain ⟨pos, hpd, hB, hit, hs, hd, hb⟩ := hrel
                    by_cases hp : pos < d
                    · have hnx : ∀ ty, (Instr.next (.pointer (some ⟨q, 0, none⟩)) true ty).run Try.prog _ = _ := fun ty => Lib.run_next_any_at _ q _ pos ty hit (by rw [HSD.out]; exact hp)
                      have hdec := decode_rep (b := 47) (by decide) pos hp
                      rw [hdec] at hnx
                      have hB2 := hB.iterAt hit (pos + 1)
                      have hs2 := hs.iterAt hit (pos + 1)
                      have hd2 := hd.iterAt hit (pos + 1)
                      have hit2 := Lib.iterAt_heap _ q _ pos (pos + 1) hit
                      have hb2 := Lib.below_iterAt hb (k := q) (by omega) (S (List.replicate d 47)) (pos + 1)
                      have hlr : (List.replicate pos navEnd).flatten.length ≤ 12 * kl.length := by simp [navEnd]; omega
                      have Hit := Lib.hid hit
                      clear hit hdec hB hs hd hb
                      go_wp2_with fail
                      refine (writeString_any g g _ _ _ hB2 (by simp only [List.length_append, size_lit, List.size_toArray, List.length_cons, List.length_nil]; omega) (Nat.le_of_lt hB2.lt)).mono ?_
                      rintro e w9 ⟨rfl, hB9, b9, k9⟩
                      have hs9 := hs2.others hB2 k9 (by decide) (by decide)
                      have hd9 := hd2.others hB2 k9 (by decide) (by decide)
                      have bb9 := hb2.trans (b9.mono hbs2)
                      have hit9 := k9.iter hit2 (by omega)
                      clear hB2 hs2 hd2 hb2 hit2 b9 k9
                      go_wp2_with fail
                      go_roundw
                      case rel =>
                        refine ⟨pos + 1, by omega, ?_, hit9, hs9, hd9, bb9⟩
                        have hfl : (List.replicate (pos + 1) navEnd).flatten = (List.replicate pos navEnd).flatten ++ navEnd := by
                          rw [List.replicate_succ']; simp
                        rw [hfl, ← List.append_assoc]
                        exact hB9
                      case measure =>
                        simp only [World.iterPos, hit9, Hit.out]
                        omega
                    · have hnx : ∀ ty, (Instr.next (.pointer (some ⟨q, 0, none⟩)) true ty).run Try.prog _ = _ := fun ty => Lib.run_next_end_at _ q _ pos ty hit (by rw [HSD.out]; exact hp)
                      have hpd' : pos = d := by omega
                      subst hpd'
                      clear hit
                      go_wp2_with fail
                      go_roundw
                      case rel =>
                        rw [ht7.out] at hB
                        refine ⟨j + 1, by omega, by go_num, hB, ?_, hs, hd, hb⟩
                        rw [← ht7.out]
                        simp [navEnd]; omega
                      case measure => simp [intOf]; omega
          · have hjn : j = kl.length := by omega
            subst hjn
            clear hj hlt hs hd
            go_wp2_with fail
            refine (writeString_any g g _ _ _ hB (by simp; omega) (Nat.le_of_lt hB.lt)).mono ?_
            rintro e w4 ⟨rfl, hB4, b4, k4⟩
            have bb4 := hb.trans (b4.mono hbs2)
            clear hB b4 k4 hb
            go_wp2_with fail
            refine (string_any g g _ _ hB4 (Nat.le_of_lt hB4.lt)).mono ?_
            rintro e w5 ⟨rfl, hB5, b5, k5⟩
            have bb5 := bb4.trans (b5.mono hbs2)
            clear hB4 b5 k5 bb4
            go_wp2_with fail
            go_ret
            have hkne : ¬ kl = [] := fun h => by rw [h] at h0; simp at h0
            refine ⟨?_, bb5⟩
            rw [HKL.out]
            simp only [htmlT, if_neg hkne, HDP.out]
            rfl
end Go.Proofs.Ytfdfpimilmhhoaa
