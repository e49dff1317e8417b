/-
  bowdlerlaw6.FrameLoose: its walk: it answers true, and turns nothing that was there.
-/
import Derived.Test.YtofloedgclodnaaDoorFrameAlive
namespace Go.Proofs.YtofloedgclodnaaDoor
open Go.RowKit

def looses : List ByteArray := [⟨#[58, 58, 58]⟩, ⟨#[58, 58, 58, 123, 125]⟩, ⟨#[58, 58, 58, 123, 97, 32, 98, 125]⟩, ⟨#[32, 58, 58, 58, 123, 97, 125]⟩, ⟨#[58, 58, 58, 58]⟩, ⟨#[58, 58, 58, 123, 97, 125, 120]⟩, ⟨#[58, 58, 123, 97, 125]⟩, ⟨#[58, 58, 58, 123, 97]⟩, ⟨#[58, 58, 58, 123, 97, 58, 98, 125]⟩, ⟨#[58, 58, 58, 123, 97, 124, 98, 125]⟩, ⟨#[58, 58, 58, 32, 120]⟩]
theorem looses_none : ∀ s ∈ looses, (opensT (L s)).2 = false ∧ s.size ≤ 20 := by decide +kernel
theorem trimR_head {a : UInt8} (l : List UInt8) (h : a ≠ 32) : ∃ r, Lib.trimRightB (a :: l) 32 = a :: r := by
  unfold Lib.trimRightB
  rw [List.reverse_cons, List.dropWhile_append]
  split
  · refine ⟨[], ?_⟩
    have : (a == (32 : UInt8)) = false := by simpa using h
    simp [List.dropWhile, this]
  · exact ⟨(List.dropWhile (fun x => x == 32) l.reverse).reverse, by simp⟩
theorem opens_no {a : UInt8} (l : List UInt8) (h : a ≠ 32) (h2 : a ≠ 58) : (opensT (a :: l)).2 = false := by
  obtain ⟨r, hr⟩ := trimR_head l h
  unfold opensT
  rw [hr]
  have : Lib.hasPrefix (a :: r) openL = false := by
    have h3 : ((58 : UInt8) == a) = false := by simpa using fun e : 58 = a => h2 e.symm
    simp [Lib.hasPrefix, openL, List.isPrefixOf, h3]
  rw [this]; rfl
theorem loose_law {s x : ByteArray} (h1 : (opensT (L s)).2 = false) (h2 : (opensT (L x)).2 = false) : (frT [s, x]).out = [⟨0, false, ⟨#[]⟩, false, [s, x]⟩] := by
  simp [frT, frStep, h1, h2, addLast]
theorem tmod11 (k : Int) : (∃ i : Nat, i < 11 ∧ (k.tmod 11 + 11).tmod 11 = (i : Int)) ∧ -10 ≤ k.tmod 11 ∧ k.tmod 11 ≤ 10 := by
  have h1 := Int.tmod_lt_of_pos k (b := 11) (by omega)
  have h2 := Int.tmod_lt_of_pos (-k) (b := 11) (by omega)
  rw [Int.neg_tmod] at h2
  have h3 := Int.tmod_lt_of_pos (k.tmod 11 + 11) (b := 11) (by omega)
  have h4 := Int.tmod_nonneg (a := k.tmod 11 + 11) (11 : Int) (by omega)
  exact ⟨⟨((k.tmod 11 + 11).tmod 11).toNat, by omega, by omega⟩, by omega, by omega⟩

set_option maxHeartbeats 2000000 in
set_option maxRecDepth 100000 in
theorem frameLoose_walk (kk : Int) (more : ByteArray) (w : World) (hg : Glb w) (_ : (Lit.int .i64 kk).wf = true) (_ : more.size ≤ 140737488351232) :
    Calls Tryd.prog 8 #[.int .i64 kk, .string more] w fun e w' => e = .returned (.bool true) ∧ Below w.heap.size w w' := by
  by_cases hbig : 30 < more.size
  · go_enter Tryd.func8, Tryd.ntmps8
    go_wp2_with (go_at_call 22; refine (alive6_any _ hg).mono ?_; rintro e w1 ⟨rfl, b1⟩)
    go_ret
    exact ⟨rfl, b1⟩
  obtain ⟨⟨m, hm, hmod⟩, hb1, hb2⟩ := tmod11 kk
  obtain ⟨s, hs⟩ : ∃ s, looses[m]? = some s := ⟨_, List.getElem?_eq_getElem (by simpa [looses] using hm)⟩
  obtain ⟨hnone, hsz⟩ := looses_none s (List.mem_of_getElem? hs)
  obtain ⟨x, hx⟩ : ∃ x, (⟨#[120]⟩ : ByteArray) ++ more = x := ⟨_, rfl⟩
  have hxs : x.size ≤ 31 := by rw [← hx, ByteArray.size_append]; have : (⟨#[120]⟩ : ByteArray).size = 1 := rfl; omega
  have hxo : (opensT (L x)).2 = false := by
    rw [← hx, L_append]
    exact opens_no (a := 120) (L more) (by decide) (by decide)
  have HLW := Lib.hid (loose_law hnone hxo)
  have HS := Lib.hid hs
  clear hnone hs hxo
  go_enter Tryd.func8, Tryd.ntmps8
  go_wp2_with (go_at_call 22; refine (alive6_any _ hg).mono ?_; rintro e w1 ⟨rfl, b1⟩)
  have z1 := b1.size
  go_loop [5] (fun s5 => ∃ j : Nat, j ≤ more.size ∧ s5 = .int .i64 j) (fun s5 => more.size - (intOf s5).toNat)
  case atStart => exact ⟨0, Nat.zero_le _, rfl⟩
  case round =>
    obtain ⟨j, hj, rfl⟩ := hrel
    by_cases hjl : j < more.size
    · obtain ⟨b, hb⟩ : ∃ b, more[j]'hjl = b := ⟨_, rfl⟩
      have c1 : decide ((b.toNat : Int) < 33) = true ∨ decide ((b.toNat : Int) < 33) = false := by cases decide ((b.toNat : Int) < 33) <;> simp
      have c2 : decide ((127 : Int) ≤ (b.toNat : Int)) = true ∨ decide ((127 : Int) ≤ (b.toNat : Int)) = false := by cases decide ((127 : Int) ≤ (b.toNat : Int)) <;> simp
      have c3 : ((b.toNat : Int) == 125) = true ∨ ((b.toNat : Int) == 125) = false := by cases ((b.toNat : Int) == 125) <;> simp
      rcases c1 with q1 | q1
      · go_wp2_with fail
        go_ret
        exact ⟨rfl, b1⟩
      · rcases c2 with q2 | q2
        · go_wp2_with fail
          go_ret
          exact ⟨rfl, b1⟩
        · rcases c3 with q3 | q3
          · go_wp2_with fail
            go_ret
            exact ⟨rfl, b1⟩
          · go_wp2_with fail
            go_round
            case rel => exact ⟨j + 1, by omega, by go_num⟩
            case measure => simp [intOf]; omega
    · go_upto_region 8 with fail
      have cm : (w1.alloc (.cells #[.string ⟨#[58, 58, 58]⟩, .string ⟨#[58, 58, 58, 123, 125]⟩, .string ⟨#[58, 58, 58, 123, 97, 32, 98, 125]⟩, .string ⟨#[32, 58, 58, 58, 123, 97, 125]⟩, .string ⟨#[58, 58, 58, 58]⟩, .string ⟨#[58, 58, 58, 123, 97, 125, 120]⟩, .string ⟨#[58, 58, 123, 97, 125]⟩, .string ⟨#[58, 58, 58, 123, 97]⟩, .string ⟨#[58, 58, 58, 123, 97, 58, 98, 125]⟩, .string ⟨#[58, 58, 58, 123, 97, 124, 98, 125]⟩, .string ⟨#[58, 58, 58, 32, 120]⟩] 9)).cell? ⟨w1.heap.size, m, none⟩ = some (.string s) := by
        rw [(Blk.new w1 9 _).cell m]
        have := congrArg (Option.map Value.string) HS.out
        rw [← List.getElem?_map] at this
        simpa [looses] using this
      have b2 : Below w.heap.size w (w1.alloc (.cells #[.string ⟨#[58, 58, 58]⟩, .string ⟨#[58, 58, 58, 123, 125]⟩, .string ⟨#[58, 58, 58, 123, 97, 32, 98, 125]⟩, .string ⟨#[32, 58, 58, 58, 123, 97, 125]⟩, .string ⟨#[58, 58, 58, 58]⟩, .string ⟨#[58, 58, 58, 123, 97, 125, 120]⟩, .string ⟨#[58, 58, 123, 97, 125]⟩, .string ⟨#[58, 58, 58, 123, 97]⟩, .string ⟨#[58, 58, 58, 123, 97, 58, 98, 125]⟩, .string ⟨#[58, 58, 58, 123, 97, 124, 98, 125]⟩, .string ⟨#[58, 58, 58, 32, 120]⟩] 9)) := b1.alloc z1 _
      go_upto_region 9 with fail
      generalize w1.alloc (.cells #[.string ⟨#[58, 58, 58]⟩, .string ⟨#[58, 58, 58, 123, 125]⟩, .string ⟨#[58, 58, 58, 123, 97, 32, 98, 125]⟩, .string ⟨#[32, 58, 58, 58, 123, 97, 125]⟩, .string ⟨#[58, 58, 58, 58]⟩, .string ⟨#[58, 58, 58, 123, 97, 125, 120]⟩, .string ⟨#[58, 58, 123, 97, 125]⟩, .string ⟨#[58, 58, 58, 123, 97]⟩, .string ⟨#[58, 58, 58, 123, 97, 58, 98, 125]⟩, .string ⟨#[58, 58, 58, 123, 97, 124, 98, 125]⟩, .string ⟨#[58, 58, 58, 32, 120]⟩] 9) = w2 at *
      have z2 := b2.size
      have hp := frParse_any (some ⟨w2.heap.size, 0, none⟩) 2 2 (w2.heap.size + 1) [s, x] (w2.alloc (.cells #[.string s, .string x] 9)) (reads_fresh w2 _ _ 1 2 _ rfl rfl) (by simp) (by omega) (by
        intro y hy
        simp only [List.mem_cons, List.not_mem_nil, or_false] at hy
        rcases hy with rfl | rfl <;> omega)
      rw [HLW.out] at hp
      have HP := Lib.hid hp
      have b3 : Below w.heap.size w (w2.alloc (.cells #[.string s, .string x] 9)) := b2.alloc z2 _
      clear hp cm hmod
      go_wp2_with fail
      refine HP.out.mono ?_
      rintro e w3 ⟨A, n, c, ps, rfl, hP, hout, b4⟩
      have b5 : Below w.heap.size w w3 := b3.trans (b4.mono (by simp; omega))
      clear HP b3 b4
      have hn := hP.len
      obtain ⟨p0, rfl⟩ : ∃ p0, ps = [p0] := by
        have := congrArg List.length hout
        match ps, this with
        | [a], _ => exact ⟨a, rfl⟩
      have hn1 : n = 1 := by simpa using hn.symm
      subst hn1
      simp only [List.map_cons, List.map_nil, List.cons.injEq, and_true] at hout
      obtain ⟨g, rfl, _, _⟩ := hP.1.some_ (by omega)
      have hL := hP.2.1 p0 (by simp)
      obtain ⟨_, c1, _, _, c4⟩ := hP.cells_at (i := 0) (p := p0) rfl
      rw [hout] at hL c1 c4
      simp only [Nat.zero_mul, Nat.zero_add, List.length_cons, List.length_nil, Nat.reduceAdd] at hL c1 c4
      obtain ⟨gl, hla, _, _⟩ := hL.some_ (by omega)
      rw [hla] at hL c4
      have l0 : w3.cell? ⟨gl, 0, none⟩ = some (.string s) := hL.cell (j := 0) rfl
      clear hP hL hn hout hla
      go_wp2_with fail
      go_ret
      exact ⟨rfl, b5⟩
end Go.Proofs.YtofloedgclodnaaDoor
