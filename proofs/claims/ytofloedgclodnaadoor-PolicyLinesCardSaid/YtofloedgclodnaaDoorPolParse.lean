/-
  policy.Parse: its contract.
-/
import Derived.Test.YtofloedgclodnaaDoorPolAdd2
import Derived.Test.YtofloedgclodnaaDoorRepair
import Derived.Laws.ResultCell
namespace Go.Proofs.YtofloedgclodnaaDoor
open Go.RowKit

/-- a line that says nothing -/
def skipB (l : ByteArray) : Bool := blankT (L l) || Lib.hasPrefix (L l) [35]
/-- what lines make of a policy -/
def parseF : List ByteArray → List ByteArray → List (Int × Int) → Option (List ByteArray × List (Int × Int))
  | [], xs, ps => if xs.length = 0 then none else some (xs, ps)
  | l :: t, xs, ps => if skipB l then parseF t xs ps else if (addT xs ps (wordsB l)).1 then parseF t (addT xs ps (wordsB l)).2.1 (addT xs ps (wordsB l)).2.2 else none
def parseT (s : ByteArray) : Option (List ByteArray × List (Int × Int)) := parseF (linesB (S (repT s))) [] []

theorem addT_len (xs : List ByteArray) (ps : List (Int × Int)) (ws : List ByteArray) : (addT xs ps ws).2.1.length ≤ xs.length + 1 ∧ (addT xs ps ws).2.2.length ≤ ps.length + 1 := by
  unfold addT
  split
  · split <;> simp
  · split <;> simp
  · simp

theorem Kept.only {K q : Nat} {w w' : World} (h : Kept K q w w') (hK : w.heap.size ≤ K) : Only w w' (some ⟨q, 0, none⟩) :=
  ⟨h.os, h.tape, h.output, h.size, fun k hk hq => h.block k (by omega) (fun e => hq (by rw [e]; rfl))⟩

theorem Blk.kept {w w' : World} {g t K q : Nat} {cs : Array Value} (h : Blk w g t cs) (hk : Kept K q w w') (hg : g < K) (hq : g ≠ q) : Blk w' g t cs := (hk.block g hg hq).trans h
theorem mem_joinT : ∀ (ini : List (List UInt8)) (z : List UInt8), z ∈ ini → z.length ≤ (joinT ini).length
  | [], z, h => by cases h
  | x :: t, z, h => by
    have e : (joinT (x :: t)).length = x.length + 1 + (joinT t).length := by simp [joinT]; omega
    rcases List.mem_cons.1 h with h | h
    · rw [h]; omega
    · have := mem_joinT t z h; omega

theorem linesB_mem (s : ByteArray) : ∀ x ∈ linesB s, x.size ≤ s.size := by
  intro x hx
  obtain ⟨y, hy, rfl⟩ := List.mem_map.1 hx
  obtain ⟨ini, last, he, -, -, h⟩ := linesT_cases (L s)
  have hs : (L s).length = s.size := length_L s
  have hl : (L s).length = (joinT ini).length + last.length := by rw [he]; simp
  have hi : ∀ z ∈ ini, z.length ≤ (joinT ini).length := fun z hz => mem_joinT ini z hz
  have : y.length ≤ (L s).length := by
    rcases h with ⟨h0, h⟩ | ⟨h0, h⟩
    · rw [h] at hy; have := hi y hy; omega
    · rw [h] at hy
      rcases List.mem_append.1 hy with hy | hy
      · have := hi y hy; omega
      · rw [List.mem_singleton.1 hy]; omega
  rw [hs] at this
  simpa [S] using this

theorem linesB_len (s : ByteArray) : (linesB s).length ≤ s.size + 1 := by
  unfold linesB
  rw [List.length_map, lines_count]
  have := List.count_le_length (a := 10) (l := L s)
  rw [length_L] at this
  split <;> omega

set_option maxHeartbeats 2000000 in
set_option maxRecDepth 100000 in
theorem parse_any (s : ByteArray) (w : World) (hg : Glb w) (hs : s.size ≤ 100000) :
    Calls Tryd.prog 18 #[.string s] w fun e w' => Below w.heap.size w w' ∧
      (parseT s = none → e = .returned (.tuple #[.agg #[.slice none 0 0, .slice none 0 0], .int .i64 1])) ∧
      (∀ r, parseT s = some r → ∃ A n c B m d, e = .returned (.tuple #[.agg #[.slice A n c, .slice B m d], .int .i64 0]) ∧ Own w' w.heap.size 9 1 A n c (txCells r.1) ∧ Own w' w.heap.size 63 2 B m d (prCells r.2)) := by
  have hrs : (S (repT s)).size ≤ 400000 := by have := repT_le s; simp [S]; omega
  have hls := linesB_mem (S (repT s))
  have hll := linesB_len (S (repT s))
  have hrep : ∀ w, Calls Tryd.prog 36 #[.string s] w fun e w' => e = .returned (.string (S (repT s))) ∧ Below w.heap.size w w' := fun w => repair_any s w (by omega)
  unfold parseT
  generalize S (repT s) = r at *
  have hspl : ∀ w, Glb w → Calls Tryd.prog 35 #[.string r] w fun e w' => ∃ A n c, e = .returned (.slice A n c) ∧ Own w' w.heap.size 9 1 A n c (txCells (linesB r)) ∧ Below w.heap.size w w' := fun w hg => split_any r w hg (by omega)
  generalize linesB r = ls at *
  have HP := Lib.hid hrep
  have HS := Lib.hid hspl
  clear hrep hspl
  go_enter Tryd.func18, Tryd.ntmps18
  go_wp2_with fail
  have bA : Below w.heap.size w ((w.alloc (.cells #[.slice none 0 0, .slice none 0 0] 25)).alloc (.cells #[.slice none 0 0, .slice none 0 0] 25)) := ((Below.refl _ _).alloc (Nat.le_refl _) _).alloc (by simp) _
  refine (HP.out _).mono ?_
  rintro e w1 ⟨rfl, b1⟩
  have B0 : Blk w1 w.heap.size 25 #[.slice none 0 0, .slice none 0 0] := ((Blk.new _ _ _).alloc _).below b1 (by simp; omega)
  have B1 : Blk w1 (w.heap.size + 1) 25 #[.slice none 0 0, .slice none 0 0] := (Blk.new' _ _ _ _ (by simp)).below b1 (by simp)
  have bb1 := bA.trans (b1.mono (by simp; omega))
  have hs1 : w.heap.size + 2 ≤ w1.heap.size := by have := b1.size; simpa using this
  have hg1 := hg.below bb1
  clear b1 bA
  go_wp2_with fail
  refine (HS.out _ hg1).mono ?_
  rintro e w2 ⟨A1, n1, c1, rfl, hd1, b2⟩
  replace B0 := B0.below b2 (by omega)
  replace B1 := B1.below b2 (by omega)
  have bb2 := bb1.trans (b2.mono (by omega))
  have hs2 := b2.size
  have hg2 := hg.below bb2
  have hn1 : ls.length = n1 := by have := hd1.len; simpa [txCells] using this
  have HN := Lib.hid hn1
  clear hn1 b2 bb1 hg1
  have hgl := hg2.lt
  have hA1 : ∀ a, A1 = some a → w1.heap.size ≤ a.block := fun a ha => (hd1.lt ha).1
  go_wp2_with fail
  go_loopw [11] (fun s11 wr => ∃ (k : Nat) (xs : List ByteArray) (ps : List (Int × Int)), k ≤ n1 ∧ s11 = .int .i64 k ∧ parseF ls [] [] = parseF (ls.drop k) xs ps ∧ Pol wr w2.heap.size (w.heap.size + 1) xs ps ∧
    Kept w2.heap.size (w.heap.size + 1) w2 wr ∧ xs.length ≤ k ∧ ps.length ≤ k) (fun s11 _ => n1 - (intOf s11).toNat)
  case atStart => exact ⟨0, [], [], Nat.zero_le _, rfl, rfl, ⟨_, _, _, _, _, _, Nat.le_refl _, B1, Own.nil _ _ _ _, Own.nil _ _ _ _⟩, .of_below (Below.refl _ _), Nat.le_refl _, Nat.le_refl _⟩
  case round =>
    obtain ⟨k, xs, ps, hk, rfl, hI, hpol, hkept, hxk, hpk⟩ := hrel
    have hbr : Below w.heap.size w wr := bb2.trans (hkept.below (by omega) (by omega))
    have hgr := hg.below hbr
    have honl := hkept.only (Nat.le_refl _)
    have B0r := B0.only honl (fun a ha => by injection ha with ha; rw [← ha]; show w.heap.size + 1 ≠ _; omega)
    have hdr := hd1.only honl (fun a b ha hb => by injection hb with hb; rw [← hb]; have := hA1 a ha; show a.block ≠ w.heap.size + 1; omega)
    have hsr := hkept.size
    by_cases hlt : k < n1
    · have hlt2 : k < ls.length := by rw [HN.out]; exact hlt
      have hd : ls.drop k = ls[k] :: ls.drop (k + 1) := List.drop_eq_getElem_cons hlt2
      obtain ⟨ad, u, rfl, _, hx0, hc⟩ := hdr.reads.at_ hlt
      obtain ⟨y, hy, rfl⟩ : ∃ y, ls[k]? = some y ∧ Value.string y = u := by simpa [txCells] using hx0
      have hyx : ls[k] = y := by rw [List.getElem?_eq_getElem hlt2] at hy; exact Option.some.inj hy
      rw [hd, hyx, parseF] at hI
      have hyl := hls y (List.mem_of_getElem? hy)
      have HI := Lib.hid hI
      clear hI hd hy hx0 hyx
      have hkl : k ≤ 400001 := by omega
      cases hbk : blankT (L y)
      · cases hpf : Lib.hasPrefix (L y) [35]
        · have hsk : skipB y = false := by unfold skipB; rw [hbk, hpf]; rfl
          rw [hsk] at HI
          cases hadd : (addT xs ps (wordsB y)).1
          · have HR : Hid (parseF ls [] [] = none) := Lib.hid (by rw [HI.out, hadd]; simp)
            clear HI
            go_wp2_with (first
              | (go_at_call 37; refine (blank_any y _ (by omega)).mono ?_; rintro e w3 ⟨rfl, b3⟩; rw [hbk])
              | (go_at_call 38; refine (Tryd.strings_HasPrefix y ⟨#[35]⟩ _).mono ?_; rintro e w4 ⟨rfl, rfl⟩; rw [show Lib.hasPrefix y.data.toList (⟨#[35]⟩ : ByteArray).data.toList = false from hpf]
                 have hpol3 := hpol.below b3 (Nat.le_refl _)
                 have hg3 := hgr.below b3)
              | (go_at_call 39; refine (add_any w2.heap.size (w.heap.size + 1) xs ps y _ hg3 hpol3 (by omega) (by omega) (by omega) (by omega)).mono ?_; rintro e w5 ⟨rfl, hpol5, k5⟩; rw [hadd]
                 have B05 := (B0r.below b3 (by omega)).kept k5 (by omega) (by omega)
                 have d0 := B05.cell 0
                 have d1 := B05.cell 1
                 have f0 := B05.frozen 0
                 have f1 := B05.frozen 1))
            try simp only [Exit.inBlock, Exit.then]
            refine bodyPost_ret (v := .tuple #[.agg #[.slice none 0 0, .slice none 0 0], .int .i64 1]) ?_ rfl ?_
            · rw [results_cell_tmp rfl]
              go_simp
            · have hk5 := (hkept.trans (.of_below (b3.mono hsr))).trans k5
              exact ⟨((bb2.trans (hk5.below (by omega) (by omega))).setCell (p := ⟨w.heap.size, 0, none⟩) (Nat.le_refl _) _).setCell (p := ⟨w.heap.size, 1, none⟩) (Nat.le_refl _) _, fun _ => rfl, fun r h => by rw [HR.out] at h; cases h⟩
          · have HR : Hid (parseF ls [] [] = parseF (ls.drop (k + 1)) (addT xs ps (wordsB y)).2.1 (addT xs ps (wordsB y)).2.2) := Lib.hid (by rw [HI.out, hadd]; simp)
            clear HI
            go_wp2_with (first
              | (go_at_call 37; refine (blank_any y _ (by omega)).mono ?_; rintro e w3 ⟨rfl, b3⟩; rw [hbk])
              | (go_at_call 38; refine (Tryd.strings_HasPrefix y ⟨#[35]⟩ _).mono ?_; rintro e w4 ⟨rfl, rfl⟩; rw [show Lib.hasPrefix y.data.toList (⟨#[35]⟩ : ByteArray).data.toList = false from hpf]
                 have hpol3 := hpol.below b3 (Nat.le_refl _)
                 have hg3 := hgr.below b3)
              | (go_at_call 39; refine (add_any w2.heap.size (w.heap.size + 1) xs ps y _ hg3 hpol3 (by omega) (by omega) (by omega) (by omega)).mono ?_; rintro e w5 ⟨rfl, hpol5, k5⟩; rw [hadd]))
            go_roundw
            case rel => exact ⟨k + 1, _, _, by omega, by go_num, HR.out, hpol5, (hkept.trans (.of_below (b3.mono hsr))).trans k5, by have := (addT_len xs ps (wordsB y)).1; omega, by have := (addT_len xs ps (wordsB y)).2; omega⟩
            case measure => simp [intOf]; omega
        · have hsk : skipB y = true := by unfold skipB; rw [hbk, hpf]; rfl
          have HR : Hid (parseF ls [] [] = parseF (ls.drop (k + 1)) xs ps) := Lib.hid (by rw [HI.out, hsk]; simp)
          clear HI
          go_wp2_with (first
            | (go_at_call 37; refine (blank_any y _ (by omega)).mono ?_; rintro e w3 ⟨rfl, b3⟩; rw [hbk])
            | (go_at_call 38; refine (Tryd.strings_HasPrefix y ⟨#[35]⟩ _).mono ?_; rintro e w4 ⟨rfl, rfl⟩; rw [show Lib.hasPrefix y.data.toList (⟨#[35]⟩ : ByteArray).data.toList = true from hpf]))
          go_roundw
          case rel => exact ⟨k + 1, xs, ps, by omega, by go_num, HR.out, hpol.below b3 (Nat.le_refl _), hkept.trans (.of_below (b3.mono hsr)), by omega, by omega⟩
          case measure => simp [intOf]; omega
      · have hsk : skipB y = true := by unfold skipB; rw [hbk]; rfl
        have HR : Hid (parseF ls [] [] = parseF (ls.drop (k + 1)) xs ps) := Lib.hid (by rw [HI.out, hsk]; simp)
        clear HI
        go_wp2_with (go_at_call 37; refine (blank_any y _ (by omega)).mono ?_; rintro e w3 ⟨rfl, b3⟩; rw [hbk])
        go_roundw
        case rel => exact ⟨k + 1, xs, ps, by omega, by go_num, HR.out, hpol.below b3 (Nat.le_refl _), hkept.trans (.of_below (b3.mono hsr)), by omega, by omega⟩
        case measure => simp [intOf]; omega
    · have HR : Hid (parseF ls [] [] = if xs.length = 0 then none else some (xs, ps)) := Lib.hid (by
        rw [hI, List.drop_eq_nil_of_le (by rw [HN.out]; omega)]; rfl)
      clear hI
      obtain ⟨A, n, c, B, m, d, h0, hB, hX, hP⟩ := hpol
      have hxn : xs.length = n := by have := hX.len; simpa [txCells] using this
      have c0 : wr.cell? ⟨w.heap.size + 1, 0, none⟩ = some (.slice A n c) := hB.cell 0
      have c1 : wr.cell? ⟨w.heap.size + 1, 1, none⟩ = some (.slice B m d) := hB.cell 1
      have d0 := B0r.cell 0
      have d1 := B0r.cell 1
      have f0 := B0r.frozen 0
      have f1 := B0r.frozen 1
      by_cases hn0 : n = 0
      · subst hn0
        rw [if_pos hxn] at HR
        go_wp2_with fail
        try simp only [Exit.inBlock, Exit.then]
        refine bodyPost_ret (v := .tuple #[.agg #[.slice none 0 0, .slice none 0 0], .int .i64 1]) ?_ rfl ?_
        · rw [results_cell_tmp rfl]
          go_simp
        · exact ⟨(hbr.setCell (p := ⟨w.heap.size, 0, none⟩) (Nat.le_refl _) _).setCell (p := ⟨w.heap.size, 1, none⟩) (Nat.le_refl _) _, fun _ => rfl, fun r h => by rw [HR.out] at h; cases h⟩
      · rw [if_neg (by omega)] at HR
        have q0 : ((n : Int) == 0) = false := beq_eq_false_iff_ne.2 (by omega)
        go_wp2_with fail
        try simp only [Exit.inBlock, Exit.then]
        refine bodyPost_ret (v := .tuple #[.agg #[.slice A n c, .slice B m d], .int .i64 0]) ?_ rfl ?_
        · rw [results_cell_tmp rfl]
          go_simp
        · refine ⟨(hbr.setCell (p := ⟨w.heap.size, 0, none⟩) (Nat.le_refl _) _).setCell (p := ⟨w.heap.size, 1, none⟩) (Nat.le_refl _) _, (fun h => by rw [HR.out] at h; cases h), fun r h => ?_⟩
          rw [HR.out] at h
          injection h with h
          subst h
          have s1 : Sep A (some ⟨w.heap.size, 0, none⟩) := fun a b ha hb => by
            injection hb with hb
            have := (hX.lt ha).1
            rw [← hb]; show a.block ≠ w.heap.size; omega
          have s2 : Sep B (some ⟨w.heap.size, 0, none⟩) := fun a b ha hb => by
            injection hb with hb
            have := (hP.lt ha).1
            rw [← hb]; show a.block ≠ w.heap.size; omega
          exact ⟨A, n, c, B, m, d, rfl, ((hX.only (only_setCell wr w.heap.size 0 _) s1).only (only_setCell _ w.heap.size 1 _) s1).base_le (by omega), ((hP.only (only_setCell wr w.heap.size 0 _) s2).only (only_setCell _ w.heap.size 1 _) s2).base_le (by omega)⟩
end Go.Proofs.YtofloedgclodnaaDoor
