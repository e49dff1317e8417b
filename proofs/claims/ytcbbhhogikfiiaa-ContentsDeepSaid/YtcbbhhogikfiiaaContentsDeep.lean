/-
  bowdlerlaw20.ContentsDeep: its walk: it answers true, and turns nothing that was there.
-/
import Derived.Test.YtcbbhhogikfiiaaAlive
namespace Go.Proofs.Ytcbbhhogikfiiaa
open Go.RowKit

theorem keepTo_keepTo (depth : Int) (l : List Sec) : keepTo depth (keepTo depth l) = keepTo depth l := by simp [keepTo, List.filter_filter]

theorem small_next {l : List Sec} {k : Nat} {x : Sec} {m : Nat} (h : ∀ y ∈ l.take k, y.text.size + y.anchor.size + y.number.size ≤ m) (hx : l[k]? = some x) (h1 : x.text.size + x.anchor.size + x.number.size ≤ m) :
    ∀ y ∈ l.take (k + 1), y.text.size + y.anchor.size + y.number.size ≤ m := by
  intro y hy
  rw [List.take_add_one, hx] at hy
  simp only [Option.toList_some, List.mem_append, List.mem_singleton] at hy
  rcases hy with hy | rfl
  · exact h y hy
  · exact h1

set_option maxHeartbeats 2000000 in
set_option maxRecDepth 100000 in
theorem contentsDeep_walk (A : Option Addr) (n c : Nat) (l : List Sec) (depth : Int) (numbers : Bool) (w : World)
    (hw : Reads w w.heap.size 4 A n (secCells l) ∧ ∀ x ∈ l, x.number.size ≤ 140737488351232 ∧ x.anchor.size ≤ 140737488351232 ∧ x.text.size ≤ 140737488351232) (_ : (Lit.int .i64 depth).wf = true) :
    Calls Try.prog 6 #[.slice A n c, .int .i64 depth, .bool numbers] w fun e w' => e = .returned (.bool true) ∧ Below w.heap.size w w' := by
  obtain ⟨hr, hR⟩ := hw
  have hl : l.length = n := by have := hr.1; rw [secCells_length] at this; omega
  have HL := Lib.hid hl
  clear hl
  by_cases hbig : 30 < n
  · go_enter Try.func6, Try.ntmps6
    go_wp2_with fail
    refine (alive_any _).mono ?_
    rintro e w1 ⟨rfl, b1⟩
    go_wp2_with fail
    go_ret
    exact ⟨rfl, b1⟩
  · go_enter Try.func6, Try.ntmps6
    go_wp2_with fail
    refine (alive_any _).mono ?_
    rintro e w1 ⟨rfl, b1⟩
    go_wp2_with fail
    go_loopw [7, 19] (fun out i wr => ∃ (k : Nat) (A1 : Option Addr) (c1 : Nat), k ≤ n ∧ i = .int .i64 k ∧ out = .slice A1 (keepTo depth (l.take k)).length c1 ∧
        Own wr w.heap.size 26 4 A1 (keepTo depth (l.take k)).length c1 (secCells (keepTo depth (l.take k))) ∧ (∀ x ∈ l.take k, x.text.size + x.anchor.size + x.number.size ≤ 100) ∧ Below w.heap.size w wr)
      (fun _ i _ => n - (intOf i).toNat)
    case atStart => exact ⟨0, none, 0, Nat.zero_le _, rfl, rfl, Own.nil _ _ _ _, by simp, b1⟩
    case round =>
      clear b1
      obtain ⟨k, A1, c1, hk, rfl, rfl, hown, hsm, hb⟩ := hrel
      have HSM := Lib.hid hsm
      clear hsm
      by_cases hlt : k < n
      · obtain ⟨x, hx⟩ : ∃ x, l[k]? = some x := ⟨_, List.getElem?_eq_getElem (by rw [HL.out]; omega)⟩
        obtain ⟨R1, R2, R3⟩ := hR x (List.mem_of_getElem? hx)
        obtain ⟨ad, rfl, hab, hc0, hcj⟩ := (hr.below hb).elem hlt
        have g0 := hc0 _ (by rw [← Nat.add_zero (k * 4), secCells_get l k 0 (by omega) hx]; rfl)
        have g1 := hcj 1 _ (by omega) (by rw [secCells_get l k 1 (by omega) hx]; rfl)
        have g2 := hcj 2 _ (by omega) (by rw [secCells_get l k 2 (by omega) hx]; rfl)
        have g3 := hcj 3 _ (by omega) (by rw [secCells_get l k 3 (by omega) hx]; rfl)
        clear hc0 hcj
        have hkl : (keepTo depth (l.take k)).length ≤ k := Nat.le_trans (List.length_filter_le _ _) (List.length_take_le _ _)
        have hbs := hb.size
        have HX := Lib.hid hx
        clear hx
        have q1 : IntKind.i64.wrap ((x.text.size : Int) + (x.anchor.size : Int)) = (x.text.size : Int) + (x.anchor.size : Int) := IntWalk.i64_in _ (by omega)
        have q2 : IntKind.i64.wrap ((x.text.size : Int) + (x.anchor.size : Int) + (x.number.size : Int)) = (x.text.size : Int) + (x.anchor.size : Int) + (x.number.size : Int) := IntWalk.i64_in _ (by omega)
        go_wp2_with fail
        go_quiet (fail)
        have hown' := hown.drewN nq
        have hb' := below_drewN' hb nq
        clear q1 q2
        by_cases h100 : 100 < x.text.size + x.anchor.size + x.number.size
        · go_wp2_with fail
          go_ret
          exact ⟨rfl, hb'⟩
        · by_cases hle : x.level ≤ depth
          · have HK := Lib.hid (keepTo_yes HX.out hle)
            generalize keepTo depth (l.take k) = kl at *
            go_wp2_with (at_builtin; refine wpList_app1 Try.elSecs rfl (.tmp 50) (.tmp 55) rfl rfl (by exact hown.alloc _) rfl (Blk.new' _ _ _ _ (by simp)) rfl (by simp [Value.oneCell']) (by simp only [maxLen]; omega) (by omega) (by simp; omega) ?_
                         intro A1' c1' w1' hown1 ho1 hm1)
            go_roundw
            case rel =>
              have hl1 : (kl ++ [x]).length = kl.length + 1 := by simp
              refine ⟨k + 1, A1', c1', by omega, by go_num, ?_, ?_, small_next HSM.out HX.out (by omega), hb'.trans (ho1.of_alloc.below (fun a ha => (hown.lt ha).1) (by simpa using hbs))⟩
              · rw [HK.out, hl1]
              · rw [HK.out, hl1]; simpa [secCells, Sec.cells] using hown1
            case measure => simp [intOf]; omega
          · have HK := Lib.hid (keepTo_no HX.out hle)
            generalize keepTo depth (l.take k) = kl at *
            go_wp2_with fail
            go_roundw
            case rel => exact ⟨k + 1, A1, c1, by omega, by go_num, by rw [HK.out], by rw [HK.out]; exact hown', small_next HSM.out HX.out (by omega), hb'⟩
            case measure => simp [intOf]; omega
      · have hkn : k = n := by omega
        subst hkn
        have hz : l.take k = l := by rw [List.take_of_length_le (by rw [HL.out]; omega)]
        have hsm := HSM.out
        rw [hz] at hown hsm ⊢
        have hsm' : ∀ x ∈ l, x.number.size + x.anchor.size + x.text.size ≤ 1048576 := fun x hx => by have := hsm x hx; omega
        have hsm2 : ∀ x ∈ keepTo depth l, x.number.size + x.anchor.size + x.text.size ≤ 1048576 := fun x hx => hsm' x (List.mem_filter.1 hx).1
        have hkl : (keepTo depth l).length ≤ k := by rw [← HL.out]; exact List.length_filter_le _ _
        have hbs := hb.size
        clear hsm hz HSM
        go_wp2_with fail
        refine (html_any A k c l depth numbers _ ((hr.below hb).more hbs) (by omega) hsm').mono ?_
        rintro e w2 ⟨rfl, b2⟩
        have hown2 := hown.below b2 (Nat.le_refl _)
        have bb2 := hb.trans (b2.mono hbs)
        have hbs2 := bb2.size
        clear b2 hown hb hbs
        go_wp2_with fail
        refine (html_any A1 _ c1 (keepTo depth l) depth numbers _ hown2.reads (by omega) hsm2).mono ?_
        rintro e w3 ⟨rfl, b3⟩
        have bb3 := bb2.trans (b3.mono hbs2)
        clear b3 hown2 bb2 hbs2
        rw [keepTo_keepTo]
        go_wp2_with fail
        refine (html_any none 0 0 [] depth numbers _ Reads.none_ (by omega) (by simp)).mono ?_
        rintro e w4 ⟨rfl, b4⟩
        have he : S (htmlT (keepTo depth []) numbers) = ⟨#[]⟩ := rfl
        rw [he]
        have bb4 := bb3.trans (b4.mono bb3.size)
        go_wp2_with fail
        go_ret
        exact ⟨rfl, bb4⟩
end Go.Proofs.Ytcbbhhogikfiiaa
