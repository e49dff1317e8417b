/-
  lattice.New: its contract.
-/
import Derived.Test.YtgdnphmannbpgaaGreatDoorGD
import Derived.Test.YtgdnphmannbpgaaGreatDoorGB
import Derived.Deep.DeepCutAuto
namespace Go.Proofs.YtgdnphmannbpgaaGreatDoor
open Go.RowKit
set_option linter.unusedVariables false

theorem u64s_set (l : List Nat) (i x : Nat) : (u64s l).set i (.int .u64 (x : Int)) = u64s (l.set i x) := by unfold u64s; rw [List.map_set]
theorem Tryz.infoU64 : (Tryz.prog.info? 99).map (fun i => (i.zero, i.size, i.bytes)) = some (some (.int .u64 0), 1, 8) := by kernel_rfl
theorem mk_u64 (n : Nat) (h : n ≤ 64) (w : World) : (Instr.makeSlice 96 (.int .i64 (n : Int)) (.int .i64 (n : Int))).run Tryz.prog w = .ok (.slice (some ⟨w.heap.size, 0, none⟩) n n) (w.alloc (.cells (Array.replicate n (.int .u64 0)) 99)) := by
  obtain ⟨i, hi, hz, hs, hb⟩ := info_parts Tryz.infoU64
  have := run_makeSlice w 96 99 i (.int .u64 0) Tryz.underlying96 hi hz .i64 .i64 (n : Int) (n : Int) (by omega) (Int.le_refl _) (by rw [hs]; simp; omega) (by rw [hb]; omega) (by omega)
  rw [this, Int.toNat_natCast, hs, Nat.mul_one, show (Value.int .u64 0).cells = #[.int .u64 0] from rfl, made_one]
/-- the lattice that is being made -/
structure LS (w : World) (base p n g1 g2 c1 c2 : Nat) (ups downs : List Nat) : Prop where
  size : base ≤ w.heap.size
  pb : base ≤ p
  blk : Blk w p 98 #[.slice (some ⟨g1, 0, none⟩) n c1, .slice (some ⟨g2, 0, none⟩) n c2, .slice none 0 0, .slice none 0 0]
  up : Own w base 99 1 (some ⟨g1, 0, none⟩) n c1 (u64s ups)
  down : Own w base 99 1 (some ⟨g2, 0, none⟩) n c2 (u64s downs)
  ne : g1 ≠ g2
theorem LS.drew {w : World} {base p n g1 g2 c1 c2 : Nat} {ups downs : List Nat} (h : LS w base p n g1 g2 c1 c2 ups downs) : LS w.drew base p n g1 g2 c1 c2 ups downs := ⟨h.size, h.pb, h.blk.drew, h.up.drew, h.down.drew, h.ne⟩
theorem LS.alloc {w : World} {base p n g1 g2 c1 c2 : Nat} {ups downs : List Nat} (h : LS w base p n g1 g2 c1 c2 ups downs) (o : Obj) : LS (w.alloc o) base p n g1 g2 c1 c2 ups downs := ⟨by simp; have := h.size; omega, h.pb, h.blk.alloc o, h.up.alloc o, h.down.alloc o, h.ne⟩
theorem LS.pne {w : World} {base p n g1 g2 c1 c2 : Nat} {ups downs : List Nat} (h : LS w base p n g1 g2 c1 c2 ups downs) : p ≠ g1 ∧ p ≠ g2 :=
  ⟨fun e => h.up.blk_ne h.blk (by decide) _ rfl e.symm, fun e => h.down.blk_ne h.blk (by decide) _ rfl e.symm⟩
theorem LS.len {w : World} {base p n g1 g2 c1 c2 : Nat} {ups downs : List Nat} (h : LS w base p n g1 g2 c1 c2 ups downs) : ups.length = n ∧ downs.length = n := by
  have h1 := h.up.len
  have h2 := h.down.len
  unfold u64s at h1 h2
  simp at h1 h2
  exact ⟨h1, h2⟩
theorem LS.cells {w : World} {base p n g1 g2 c1 c2 : Nat} {ups downs : List Nat} (h : LS w base p n g1 g2 c1 c2 ups downs) :
    w.cell? ⟨p, 0, none⟩ = some (.slice (some ⟨g1, 0, none⟩) n c1) ∧ w.cell? ⟨p, 0 + 1, none⟩ = some (.slice (some ⟨g2, 0, none⟩) n c2) := ⟨h.blk.cell 0, h.blk.cell 1⟩
theorem LS.upAt {w : World} {base p n g1 g2 c1 c2 : Nat} {ups downs : List Nat} (h : LS w base p n g1 g2 c1 c2 ups downs) {i : Nat} (hi : i < n) : w.cell? ⟨g1, i, none⟩ = some (.int .u64 (at0 ups i : Int)) ∧ w.frozen? ⟨g1, i, none⟩ = false :=
  ⟨h.up.cell (u64s_get (by rw [h.len.1]; exact hi)), h.up.frozen i⟩
theorem LS.downAt {w : World} {base p n g1 g2 c1 c2 : Nat} {ups downs : List Nat} (h : LS w base p n g1 g2 c1 c2 ups downs) {i : Nat} (hi : i < n) : w.cell? ⟨g2, i, none⟩ = some (.int .u64 (at0 downs i : Int)) ∧ w.frozen? ⟨g2, i, none⟩ = false :=
  ⟨h.down.cell (u64s_get (by rw [h.len.2]; exact hi)), h.down.frozen i⟩
theorem LS.setUp {w : World} {base p n g1 g2 c1 c2 : Nat} {ups downs : List Nat} (h : LS w base p n g1 g2 c1 c2 ups downs) (i x : Nat) :
    LS (w.setCell ⟨g1, i, none⟩ (.int .u64 (x : Int))) base p n g1 g2 c1 c2 (ups.set i x) downs ∧ Below base w (w.setCell ⟨g1, i, none⟩ (.int .u64 (x : Int))) := by
  have ho := only_setCell w g1 i (.int .u64 (x : Int))
  refine ⟨⟨by simp [World.setCell]; exact h.size, h.pb, h.blk.only ho (fun a ha => by injection ha with ha; rw [← ha]; exact h.pne.1.symm), ?_, h.down.only ho (fun a b ha hb => by injection ha with ha; injection hb with hb; rw [← ha, ← hb]; exact h.ne.symm), h.ne⟩, (Below.refl _ _).setCell (p := ⟨g1, i, none⟩) (h.up.lt rfl).1 _⟩
  have := h.up.stored i (.int .u64 (x : Int))
  rwa [u64s_set] at this
theorem LS.setDown {w : World} {base p n g1 g2 c1 c2 : Nat} {ups downs : List Nat} (h : LS w base p n g1 g2 c1 c2 ups downs) (i x : Nat) :
    LS (w.setCell ⟨g2, i, none⟩ (.int .u64 (x : Int))) base p n g1 g2 c1 c2 ups (downs.set i x) ∧ Below base w (w.setCell ⟨g2, i, none⟩ (.int .u64 (x : Int))) := by
  have ho := only_setCell w g2 i (.int .u64 (x : Int))
  refine ⟨⟨by simp [World.setCell]; exact h.size, h.pb, h.blk.only ho (fun a ha => by injection ha with ha; rw [← ha]; exact h.pne.2.symm), h.up.only ho (fun a b ha hb => by injection ha with ha; injection hb with hb; rw [← ha, ← hb]; exact h.ne), ?_, h.ne⟩, (Below.refl _ _).setCell (p := ⟨g2, i, none⟩) (h.down.lt rfl).1 _⟩
  have := h.down.stored i (.int .u64 (x : Int))
  rwa [u64s_set] at this
theorem LS.made (W : World) (base n a b : Nat) (h64 : n ≤ 64) (hW : base ≤ W.heap.size) (hab : (a = W.heap.size ∧ b = W.heap.size + 1) ∨ (a = W.heap.size + 1 ∧ b = W.heap.size)) :
    LS (((W.alloc (.cells (Array.replicate n (.int .u64 0)) 99)).alloc (.cells (Array.replicate n (.int .u64 0)) 99)).alloc (.cells #[.slice (some ⟨a, 0, none⟩) n n, .slice (some ⟨b, 0, none⟩) n n, .slice none 0 0, .slice none 0 0] 98)).drew base (W.heap.size + 1 + 1) n a b n n (List.replicate n 0) (List.replicate n 0) := by
  have hU : ∀ V : World, base ≤ V.heap.size → Own (V.alloc (.cells (Array.replicate n (.int .u64 0)) 99)) base 99 1 (some ⟨V.heap.size, 0, none⟩) n n (u64s (List.replicate n 0)) := fun V hV => by
    have := World.ownsRow_lit (base := base) (e := 99) (size := 1) V (Array.replicate n (.int .u64 0)) n hV (by unfold maxLen; omega) (by simp)
    simpa [Own, u64s] using this
  have h0 := ((hU W hW).alloc (.cells (Array.replicate n (.int .u64 0)) 99)).alloc (.cells #[.slice (some ⟨a, 0, none⟩) n n, .slice (some ⟨b, 0, none⟩) n n, .slice none 0 0, .slice none 0 0] 98)
  have h1 := (hU (W.alloc (.cells (Array.replicate n (.int .u64 0)) 99)) (by simp; omega)).alloc (.cells #[.slice (some ⟨a, 0, none⟩) n n, .slice (some ⟨b, 0, none⟩) n n, .slice none 0 0, .slice none 0 0] 98)
  have hs : (W.alloc (.cells (Array.replicate n (.int .u64 0)) 99)).heap.size = W.heap.size + 1 := by simp
  rw [hs] at h1
  have hB := Blk.new' ((W.alloc (.cells (Array.replicate n (.int .u64 0)) 99)).alloc (.cells (Array.replicate n (.int .u64 0)) 99)) 98 #[.slice (some ⟨a, 0, none⟩) n n, .slice (some ⟨b, 0, none⟩) n n, .slice none 0 0, .slice none 0 0] (W.heap.size + 1 + 1) (by simp)
  rcases hab with ⟨rfl, rfl⟩ | ⟨rfl, rfl⟩
  · exact ⟨by show base ≤ _; simp; omega, by omega, hB.drew, h0.drew, h1.drew, by omega⟩
  · exact ⟨by show base ≤ _; simp; omega, by omega, hB.drew, h1.drew, h0.drew, by omega⟩
theorem pow_wrap {k : Nat} (h : k < 64) : IntKind.u64.wrap ((2 : Int) ^ k) = ((2 ^ k : Nat) : Int) := by
  have h1 : 2 ^ k < 2 ^ 64 := pow64 h
  have := wraps_u64 ((2 ^ k : Nat) : Int) (Int.natCast_nonneg _) (by exact_mod_cast h1)
  rw [← this]
  congr 1
theorem or_nat {a b : Nat} (ha : a < 2 ^ 64) (hb : b < 2 ^ 64) : bits .or .u64 (a : Int) (b : Int) = ((a ||| b : Nat) : Int) := (u64_nat ha hb).2
theorem cycB_at {up : List Nat} {a b : Nat} (h : cycAt up a b = true) : ∀ k, b < k → cycB up a k = true
  | 0, hk => by omega
  | k + 1, hk => by
    rcases Nat.lt_or_ge b k with hb | hb
    · rw [cycB, cycB_at h k hb]; rfl
    · have : b = k := by omega
      subst this
      rw [cycB, h, Bool.or_true]
theorem cycA_at {n : Nat} {up : List Nat} {a b : Nat} (h : cycAt up a b = true) (hb : b < n) : ∀ k, a < k → cycA n up k = true
  | 0, hk => by omega
  | k + 1, hk => by
    rcases Nat.lt_or_ge a k with ha | ha
    · rw [cycA, cycA_at h hb k ha]; rfl
    · have : a = k := by omega
      subst this
      rw [cycA, cycB_at h n hb, Bool.or_true]
theorem newT_cyc {n : Nat} {ps : List (Int × Int)} {a b : Nat} (ha : a < n) (hb : b < n) (h : cycAt (upsT n ps) a b = true) : newT n ps = none := by
  unfold newT
  simp only
  rw [cycA_at h hb n ha, if_pos rfl]
theorem Own.setP {w : World} {base e size n c p t i : Nat} {A : Option Addr} {xs : List Value} {cs : Array Value} (h : Own w base e size A n c xs) (hB : Blk w p t cs) (hne : e ≠ t) (v : Value) : Own (w.setCell ⟨p, i, none⟩ v) base e size A n c xs :=
  h.only (only_setCell w p i v) (fun a b ha hb => by
    injection hb with hb
    rw [← hb]
    exact h.blk_ne hB hne a ha)
theorem Done.setP {w : World} {base lim p t i : Nat} {vs : List Value} {n : Nat} {tt : List (List Nat)} {cs : Array Value} (h : Done w base lim vs n tt) (hB : Blk w p t cs) (hne : 3 ≠ t) (v : Value) : Done (w.setCell ⟨p, i, none⟩ v) base lim vs n tt := fun a row hr => by
  obtain ⟨h1, B, c, h2, h3, h4⟩ := h a row hr
  exact ⟨h1, B, c, h2, h3.setP hB hne v, h4⟩
theorem Done.below {w w' : World} {base lim K : Nat} {vs : List Value} {n : Nat} {tt : List (List Nat)} (h : Done w base lim vs n tt) (hb : Below K w w') (hK : w.heap.size ≤ K) (hl : lim ≤ w'.heap.size) : Done w' base w'.heap.size vs n tt := fun a row hr => by
  obtain ⟨h1, B, c, h2, h3, h4⟩ := h a row hr
  exact ⟨h1, B, c, h2, h3.below hb hK, fun b hb' => by have := h4 b hb'; omega⟩
/-- pairs that may be -/
def PairsOk (n : Nat) (ps : List (Int × Int)) : Prop := ∀ p ∈ ps, 0 ≤ p.1 ∧ p.1 < n ∧ 0 ≤ p.2 ∧ p.2 < n

set_option maxHeartbeats 8000000 in
set_option maxRecDepth 100000 in
theorem latNew_any (A : Option Addr) (n m c K : Nat) (ps : List (Int × Int)) (w : World) (h1 : 1 ≤ n) (h64 : n ≤ 64) (hr : Reads w K 2 A m (prCells ps)) (hK : K ≤ w.heap.size) (hm : m ≤ 1048576) (hok : PairsOk n ps) :
    Calls Tryz.prog 19 #[.int .i64 (n : Int), .slice A m c] w fun e w' => Below w.heap.size w w' ∧
      ((newT n ps = none ∧ e = .returned (.tuple #[.pointer none, .int .i64 1])) ∨ ∃ p t, newT n ps = some t ∧ e = .returned (.tuple #[.pointer (some ⟨p, 0, none⟩), .int .i64 0]) ∧ LatR w' w'.heap.size p t) := by
  have hlen : ps.length = m := by have := hr.1; rw [prCells_length] at this; omega
  have HL := Lib.hid hlen
  have HOK := Lib.hid hok
  clear hlen hok
  have hmk := mk_u64 n h64
  go_enter Tryz.func19, Tryz.ntmps19
  go_wp2_with fail
  go_loopw [25] (fun s wr => ∃ k : Nat, k ≤ m ∧ s = .int .i64 k ∧ Below w.heap.size w wr) (fun s _ => m - (intOf s).toNat)
  case atStart => exact ⟨0, Nat.zero_le _, rfl, Below.refl _ _⟩
  case round =>
    obtain ⟨k, hk, rfl, hb⟩ := hrel
    have hzw := hb.size
    by_cases hlt : k < m
    · have hlt2 : k < ps.length := by rw [HL.out]; exact hlt
      have hcat := prCells_at ps k hlt2
      have hq := HOK.out ps[k] (List.getElem_mem hlt2)
      generalize ps[k] = q at hq hcat
      obtain ⟨ad, rfl, _, hc0, hc1⟩ := (hr.below (hb.mono hK)).elem hlt
      have c0 := hc0 _ hcat.1
      have c1 := hc1 1 _ (by decide) hcat.2
      obtain ⟨q1, q2⟩ := q
      obtain ⟨g1, g2, g3, g4⟩ := hq
      simp only at g1 g2 g3 g4 c0 c1
      have y1 : decide (min q1 q2 < 0) = false := decide_eq_false (by omega)
      have y2 : decide ((n : Int) ≤ max q1 q2) = false := decide_eq_false (by omega)
      clear hc0 hc1 hcat
      go_wp2_with fail
      go_roundw
      case rel => exact ⟨k + 1, by omega, by go_num, hb.alloc hzw _⟩
      case measure => simp [intOf]; omega
    · go_upto_region 9 with fail
      go_cut [8] (fun s8 wx => ∃ p g1 g2, s8 = .pointer (some ⟨p, 0, none⟩) ∧ LS wx w.heap.size p n g1 g2 n n (initU n 0) (List.replicate n 0) ∧ Below w.heap.size w wx)
      case first =>
        go_region
        all_goals
          go_wp2_with fail
          go_meet
        · exact ⟨_, _, _, rfl, LS.made wr w.heap.size n _ _ h64 hzw (.inl ⟨rfl, rfl⟩), (((hb.alloc hzw _).alloc (by simp; omega) _).alloc (by simp; omega) _).drew⟩
        · exact ⟨_, _, _, rfl, LS.made wr w.heap.size n _ _ h64 hzw (.inr ⟨rfl, rfl⟩), (((hb.alloc hzw _).alloc (by simp; omega) _).alloc (by simp; omega) _).drew⟩
      case rest =>
      obtain ⟨p, g1, g2, rfl, hS, hb9⟩ := hcut
      apply_assumption
      clear hb hzw hlt hk hmk
      generalize wc = w9 at *
      go_wp2_with fail
      go_loopw [52] (fun s wr => ∃ k : Nat, k ≤ n ∧ s = .int .i64 k ∧ LS wr w.heap.size p n g1 g2 n n (initU n k) (List.replicate n 0) ∧ Below w.heap.size w wr) (fun s _ => n - (intOf s).toNat)
      case atStart => exact ⟨0, Nat.zero_le _, rfl, hS, hb9⟩
      case round =>
        clear hS hb9
        obtain ⟨k, hk, rfl, hS, hb⟩ := hrel
        by_cases hlt : k < n
        · obtain ⟨k0, k1⟩ := hS.cells
          obtain ⟨u0, u1⟩ := hS.upAt hlt
          go_upto_region 13 with fail
          go_still_tail 8, (by kernel_rfl)
          change wpList _ _ _ _ _ wr.drew
          have hSd := hS.drew
          have hbd := hb.drew
          clear hS hb k0 k1 u0 u1
          generalize wr.drew = wd at *
          obtain ⟨u0, u1⟩ := hSd.upAt hlt
          have HP := Lib.hid (pow_wrap (k := k) (by omega))
          go_wp2_with fail
          go_roundw
          case rel =>
            rw [HP.out]
            exact ⟨k + 1, by omega, by go_num, (hSd.setUp k (2 ^ k)).1, hbd.trans (hSd.setUp k (2 ^ k)).2⟩
          case measure => simp [intOf]; omega
        · have hkn : k = n := by omega
          subst hkn
          have hu0 := initU_64 k h64 k (Nat.le_refl _)
          obtain ⟨E, hE⟩ : ∃ E, edgesU (initU k k) ps = E := ⟨_, rfl⟩
          have HE := Lib.hid hE
          go_wp2_with fail
          go_loopw [66] (fun s wr => ∃ (j : Nat) (us : List Nat), j ≤ m ∧ s = .int .i64 j ∧ Hid (edgesU us (ps.drop j) = E) ∧ M64 us ∧ LS wr w.heap.size p k g1 g2 k k us (List.replicate k 0) ∧ Below w.heap.size w wr) (fun s _ => m - (intOf s).toNat)
          case atStart => exact ⟨0, _, Nat.zero_le _, rfl, Lib.hid hE, hu0, hS, hb⟩
          case round =>
            clear hS hb hE hu0
            obtain ⟨j, us, hj, rfl, HEJ, hM, hS, hb⟩ := hrel
            have hzw := hb.size
            by_cases hlt : j < m
            · have hlt2 : j < ps.length := by rw [HL.out]; exact hlt
              have hcat := prCells_at ps j hlt2
              have hq := HOK.out ps[j] (List.getElem_mem hlt2)
              have hej := HEJ.out
              rw [List.drop_eq_getElem_cons hlt2, edgesU] at hej
              generalize ps[j] = q at hq hcat hej
              obtain ⟨ad, rfl, _, hc0, hc1⟩ := (hr.below (hb.mono hK)).elem hlt
              have c0 := hc0 _ hcat.1
              have c1 := hc1 1 _ (by decide) hcat.2
              obtain ⟨q1, q2⟩ := q
              obtain ⟨b1, b2, b3, b4⟩ := hq
              simp only at b1 b2 b3 b4 c0 c1
              obtain ⟨a, rfl⟩ := Int.eq_ofNat_of_zero_le b1
              obtain ⟨b, rfl⟩ := Int.eq_ofNat_of_zero_le b3
              have ha : a < k := by omega
              have hb' : b < k := by omega
              have HEJ2 : Hid (edgesU (us.set a (at0 us a ||| 2 ^ b)) (ps.drop (j + 1)) = E) := Lib.hid hej
              clear hc0 hc1 hcat hej
              have BX := Blk.new wr 53 #[.int .i64 (a : Int), .int .i64 (b : Int)]
              have e0 : (wr.alloc (.cells #[.int .i64 (a : Int), .int .i64 (b : Int)] 53)).cell? ⟨wr.heap.size, 0, none⟩ = some (.int .i64 (a : Int)) := BX.cell 0
              have e1 : (wr.alloc (.cells #[.int .i64 (a : Int), .int .i64 (b : Int)] 53)).cell? ⟨wr.heap.size, 1, none⟩ = some (.int .i64 (b : Int)) := BX.cell 1
              have hSa := hS.alloc (.cells #[.int .i64 (a : Int), .int .i64 (b : Int)] 53)
              have hba := hb.alloc hzw (.cells #[.int .i64 (a : Int), .int .i64 (b : Int)] 53)
              go_upto_region 18 with fail
              obtain ⟨gs, hgs⟩ : ∃ gs, wr.heap.size = gs := ⟨_, rfl⟩
              simp only [hgs] at e0 e1 ⊢
              generalize wr.alloc (.cells #[.int .i64 (a : Int), .int .i64 (b : Int)] 53) = wa at *
              clear BX hS hb c0 c1 hgs
              obtain ⟨k0, k1⟩ := hSa.cells
              obtain ⟨u0, u1⟩ := hSa.upAt ha
              go_still_tail 13, (by kernel_rfl)
              change wpList _ _ _ _ _ wa.drew
              have hSd := hSa.drew
              have hbd := hba.drew
              clear hSa hba k0 k1 u0 u1 e0 e1
              generalize wa.drew = wd at *
              obtain ⟨u0, u1⟩ := hSd.upAt ha
              have HP := Lib.hid (pow_wrap (k := b) (by omega))
              have HOR := Lib.hid (or_nat (hM.at0 a) (pow64 (k := b) (by omega)))
              go_wp2_with fail
              go_roundw
              case rel =>
                rw [HP.out, HOR.out]
                exact ⟨j + 1, _, by omega, by go_num, HEJ2, hM.set a (or64 (hM.at0 a) (pow64 (by omega))), (hSd.setUp a _).1, hbd.trans (hSd.setUp a _).2⟩
              case measure => simp [intOf]; omega
            · have hjm : j = m := by omega
              subst hjm
              have hEE : us = E := by
                have := HEJ.out
                rwa [List.drop_of_length_le (by rw [HL.out]; exact Nat.le_refl _), edgesU] at this
              subst hEE
              clear HEJ
              go_wp2_with fail
              go_loopw [85] (fun s wr => ∃ a : Nat, a ≤ k ∧ s = .int .i64 a ∧ LS wr w.heap.size p k g1 g2 k k (closeK k us a) (List.replicate k 0) ∧ Below w.heap.size w wr) (fun s _ => k - (intOf s).toNat)
              case atStart => exact ⟨0, Nat.zero_le _, rfl, hS, hb⟩
              case round =>
                clear hS hb hzw
                obtain ⟨a, ha, rfl, hS, hb⟩ := hrel
                by_cases hlt : a < k
                · have hM2 := closeK_64 k hM a
                  obtain ⟨cs, hcs⟩ : ∃ cs, closeK k us a = cs := ⟨_, rfl⟩
                  have HCS : Hid (closeK k us (a + 1) = closeI a cs k) := Lib.hid (by rw [closeK, hcs])
                  rw [hcs] at hS hM2
                  clear hcs
                  go_wp2_with fail
                  go_loopw [89] (fun s wr => ∃ i : Nat, i ≤ k ∧ s = .int .i64 i ∧ LS wr w.heap.size p k g1 g2 k k (closeI a cs i) (List.replicate k 0) ∧ Below w.heap.size w wr) (fun s _ => k - (intOf s).toNat)
                  case atStart => exact ⟨0, Nat.zero_le _, rfl, hS, hb⟩
                  case round =>
                    clear hS hb
                    obtain ⟨i, hi, rfl, hS, hb⟩ := hrel
                    by_cases hlt2 : i < k
                    · have hM3 := closeI_64 a hM2 i
                      have hstep : closeI a cs (i + 1) = if (at0 (closeI a cs i) i).testBit a then (closeI a cs i).set i (at0 (closeI a cs i) i ||| at0 (closeI a cs i) a) else closeI a cs i := rfl
                      generalize closeI a cs i = ds at *
                      have HST := Lib.hid hstep
                      clear hstep
                      have e0 := bit_one (at0 ds i) a (hM3.at0 i) (by omega)
                      have e1 : bits .and .u64 (((at0 ds i : Nat) : Int) / 2 ^ a) 1 = (if (at0 ds i).testBit a then 1 else 0) := by rw [Nat.min_eq_left (by omega)] at e0; exact e0
                      obtain ⟨k0, k1⟩ := hS.cells
                      obtain ⟨u0, u1⟩ := hS.upAt hlt2
                      obtain ⟨v0, v1⟩ := hS.upAt hlt
                      cases hbt : (at0 ds i).testBit a
                      · rw [hbt] at e0 e1
                        rw [if_neg (by decide)] at e0 e1
                        have HS2 : Hid (closeI a cs (i + 1) = ds) := Lib.hid (by rw [HST.out, hbt, if_neg (by decide)])
                        clear hbt
                        go_wp2_with fail
                        go_roundw
                        case rel => exact ⟨i + 1, by omega, by go_num, by rw [HS2.out]; exact hS, hb⟩
                        case measure => simp [intOf]; omega
                      · rw [hbt] at e0 e1
                        rw [if_pos rfl] at e0 e1
                        have HS2 : Hid (closeI a cs (i + 1) = ds.set i (at0 ds i ||| at0 ds a)) := Lib.hid (by rw [HST.out, hbt, if_pos rfl])
                        clear hbt
                        go_upto_region 27 with fail
                        go_still_tail 16, (by kernel_rfl)
                        change wpList _ _ _ _ _ wr.drew
                        have hSd := hS.drew
                        have hbd := hb.drew
                        clear hS hb k0 k1 u0 u1 v0 v1 e0 e1
                        generalize wr.drew = wd at *
                        obtain ⟨u0, u1⟩ := hSd.upAt hlt2
                        have HOR := Lib.hid (or_nat (hM3.at0 i) (hM3.at0 a))
                        go_wp2_with fail
                        go_roundw
                        case rel =>
                          rw [HOR.out]
                          exact ⟨i + 1, by omega, by go_num, by rw [HS2.out]; exact (hSd.setUp i _).1, hbd.trans (hSd.setUp i _).2⟩
                        case measure => simp [intOf]; omega
                    · have hik : i = k := by omega
                      subst hik
                      go_wp2_with fail
                      go_roundw
                      case rel => exact ⟨a + 1, by omega, by go_num, by rw [HCS.out]; exact hS, hb⟩
                      case measure => simp [intOf]; omega
                · have hak : a = k := by omega
                  subst hak
                  have hU : upsT a ps = closeK a us a := by unfold upsT; rw [HE.out]
                  have hMU := closeK_64 a hM a
                  rw [← hU] at hS hMU
                  obtain ⟨U, hUe⟩ : ∃ U, upsT a ps = U := ⟨_, rfl⟩
                  rw [hUe] at hS hMU
                  have HUE := Lib.hid hUe
                  have hlU : U.length = a := hS.len.1
                  have HLU := Lib.hid hlU
                  clear hU hUe hlU hM HE
                  go_wp2_with fail
                  go_loopw [122] (fun s wr => ∃ x : Nat, x ≤ a ∧ s = .int .i64 x ∧ LS wr w.heap.size p a g1 g2 a a U (downA a U x) ∧ Below w.heap.size w wr ∧ Hid (cycA a U x = false)) (fun s _ => a - (intOf s).toNat)
                  case atStart => exact ⟨0, Nat.zero_le _, rfl, hS, hb, Lib.hid rfl⟩
                  case round =>
                    clear hS hb
                    obtain ⟨x, hx, rfl, hS, hb, HCY⟩ := hrel
                    by_cases hlt : x < a
                    · obtain ⟨cs, hcs⟩ : ∃ cs, downA a U x = cs := ⟨_, rfl⟩
                      have hMC := downA_64 a U h64 x hx
                      have HCS : Hid (downA a U (x + 1) = downB U x cs a) := Lib.hid (by rw [downA, hcs])
                      rw [hcs] at hS hMC
                      clear hcs
                      go_wp2_with fail
                      go_loopw [126] (fun s wr => ∃ i : Nat, i ≤ a ∧ s = .int .i64 i ∧ LS wr w.heap.size p a g1 g2 a a U (downB U x cs i) ∧ Below w.heap.size w wr ∧ Hid (cycB U x i = false)) (fun s _ => a - (intOf s).toNat)
                      case atStart => exact ⟨0, Nat.zero_le _, rfl, hS, hb, Lib.hid rfl⟩
                      case round =>
                        clear hS hb
                        obtain ⟨i, hi, rfl, hS, hb, HCB⟩ := hrel
                        by_cases hlt2 : i < a
                        · have hM3 := downB_64 U (show x < 64 by omega) hMC i
                          have hstep : downB U x cs (i + 1) = if (at0 U x).testBit i then (downB U x cs i).set i (at0 (downB U x cs i) i ||| 2 ^ x) else downB U x cs i := rfl
                          generalize downB U x cs i = ds at *
                          have HST := Lib.hid hstep
                          clear hstep
                          have e0 := bit_one (at0 U x) i (hMU.at0 x) (by omega)
                          have e1 : bits .and .u64 (((at0 U x : Nat) : Int) / 2 ^ i) 1 = (if (at0 U x).testBit i then 1 else 0) := by rw [Nat.min_eq_left (by omega)] at e0; exact e0
                          obtain ⟨k0, k1⟩ := hS.cells
                          obtain ⟨u0, u1⟩ := hS.upAt hlt
                          obtain ⟨v0, v1⟩ := hS.downAt hlt2
                          cases hbt : (at0 U x).testBit i
                          · rw [hbt] at e0 e1
                            rw [if_neg (by decide)] at e0 e1
                            have HS2 : Hid (downB U x cs (i + 1) = ds) := Lib.hid (by rw [HST.out, hbt, if_neg (by decide)])
                            have HC2 : Hid (cycB U x (i + 1) = false) := Lib.hid (by rw [cycB, HCB.out]; unfold cycAt; rw [hbt]; rfl)
                            clear hbt
                            go_wp2_with fail
                            go_roundw
                            case rel => exact ⟨i + 1, by omega, by go_num, by rw [HS2.out]; exact hS, hb, HC2⟩
                            case measure => simp [intOf]; omega
                          · rw [hbt] at e0 e1
                            rw [if_pos rfl] at e0 e1
                            have HS2 : Hid (downB U x cs (i + 1) = ds.set i (at0 ds i ||| 2 ^ x)) := Lib.hid (by rw [HST.out, hbt, if_pos rfl])
                            have HBT := Lib.hid hbt
                            clear hbt
                            go_upto_region 37 with fail
                            go_still_tail 11, (by kernel_rfl)
                            change wpList _ _ _ _ _ wr.drew
                            have hSd := hS.drew
                            have hbd := hb.drew
                            clear hS hb k0 k1 u0 u1 v0 v1 e0 e1
                            generalize wr.drew = wd at *
                            obtain ⟨v0, v1⟩ := hSd.downAt hlt2
                            have HP := Lib.hid (pow_wrap (k := x) (by omega))
                            have HOR := Lib.hid (or_nat (hM3.at0 i) (pow64 (k := x) (by omega)))
                            go_upto_region 38 with fail
                            rw [HP.out, HOR.out]
                            obtain ⟨hS4, b4⟩ := hSd.setDown i (at0 ds i ||| 2 ^ x)
                            have hb4 := hbd.trans b4
                            clear hSd hbd v0 v1 b4
                            generalize wd.setCell ⟨g2, i, none⟩ (.int .u64 ((at0 ds i ||| 2 ^ x : Nat) : Int)) = w4 at *
                            obtain ⟨k0, k1⟩ := hS4.cells
                            obtain ⟨u0, u1⟩ := hS4.upAt hlt2
                            have e0 := bit_one (at0 U i) x (hMU.at0 i) (by omega)
                            have e1 : bits .and .u64 (((at0 U i : Nat) : Int) / 2 ^ x) 1 = (if (at0 U i).testBit x then 1 else 0) := by rw [Nat.min_eq_left (by omega)] at e0; exact e0
                            by_cases hxi : x = i
                            · have HC2 : Hid (cycB U x (i + 1) = false) := Lib.hid (by rw [cycB, HCB.out]; unfold cycAt; rw [decide_eq_false (fun h => h hxi)]; simp)
                              have q1 : ((x : Int) != (i : Int)) = false := by simp; omega
                              clear hxi
                              go_wp2_with fail
                              go_roundw
                              case rel => exact ⟨i + 1, by omega, by go_num, by rw [HS2.out]; exact hS4, hb4, HC2⟩
                              case measure => simp [intOf]; omega
                            · have q1 : ((x : Int) != (i : Int)) = true := by simp; omega
                              cases hbt2 : (at0 U i).testBit x
                              · rw [hbt2] at e0 e1
                                rw [if_neg (by decide)] at e0 e1
                                have HC2 : Hid (cycB U x (i + 1) = false) := Lib.hid (by rw [cycB, HCB.out]; unfold cycAt; rw [hbt2]; simp)
                                clear hxi hbt2
                                go_wp2_with fail
                                go_roundw
                                case rel => exact ⟨i + 1, by omega, by go_num, by rw [HS2.out]; exact hS4, hb4, HC2⟩
                                case measure => simp [intOf]; omega
                              · rw [hbt2] at e0 e1
                                rw [if_pos rfl] at e0 e1
                                have HNT : Hid (newT a ps = none) := Lib.hid (newT_cyc hlt hlt2 (by rw [HUE.out]; unfold cycAt; rw [HBT.out, hbt2, decide_eq_true hxi]; rfl))
                                clear hxi hbt2
                                go_wp2_with fail
                                go_ret2
                                exact ⟨hb4, .inl ⟨HNT.out, rfl⟩⟩
                        · have hia : i = a := by omega
                          subst hia
                          have HC2 : Hid (cycA i U (x + 1) = false) := Lib.hid (by rw [cycA, HCY.out, HCB.out]; rfl)
                          go_wp2_with fail
                          go_roundw
                          case rel => exact ⟨x + 1, by omega, by go_num, by rw [HCS.out]; exact hS, hb, HC2⟩
                          case measure => simp [intOf]; omega
                    · have hxa : x = a := by omega
                      subst hxa
                      have hMD := downA_64 x U h64 x (Nat.le_refl _)
                      have hlD := downA_len x U x
                      obtain ⟨D, hD⟩ : ∃ D, downA x U x = D := ⟨_, rfl⟩
                      rw [hD] at hS hMD hlD
                      have HNEW : Hid (newT x ps = match tabA U U x, tabA D D x with | some j, some m => some ⟨x, U, j, m⟩ | _, _ => none) := Lib.hid (by
                        unfold newT
                        simp only
                        rw [HUE.out, HCY.out, if_neg (by decide), hD]
                        cases tabA U U x <;> cases tabA D D x <;> rfl)
                      clear hD HCY
                      have hB := hS.blk
                      have hUp := hS.up
                      have hDn := hS.down
                      have hpb := hS.pb
                      have hzs := hS.size
                      have hpl := hB.lt
                      have k0 : wr.cell? ⟨p, 0, none⟩ = some (.slice (some ⟨g1, 0, none⟩) x x) := hB.cell 0
                      have HC1 : Hid (∀ W, Own W w.heap.size 99 1 (some ⟨g1, 0, none⟩) x x (u64s U) → Calls Tryz.prog 51 #[.slice (some ⟨g1, 0, none⟩) x x, .slice (some ⟨g1, 0, none⟩) x x] W fun e w' => Below W.heap.size W w' ∧
                          ((tabA U U x = none ∧ e = .returned (.tuple #[.slice none 0 0, .bool false])) ∨ ∃ go t vs, tabA U U x = some t ∧ e = .returned (.tuple #[.slice (some ⟨go, 0, none⟩) x x, .bool true]) ∧ t.length = x ∧ Own w' W.heap.size 81 1 (some ⟨go, 0, none⟩) x x vs ∧ Done w' W.heap.size w'.heap.size vs x t)) := Lib.hid fun W hW =>
                        bounds_any _ _ x x x W.heap.size U U W h1 h64 hW.reads hW.reads (Nat.le_refl _) hMU hMU HLU.out HLU.out
                      have HC2 : Hid (∀ W, Own W w.heap.size 99 1 (some ⟨g2, 0, none⟩) x x (u64s D) → Calls Tryz.prog 51 #[.slice (some ⟨g2, 0, none⟩) x x, .slice (some ⟨g2, 0, none⟩) x x] W fun e w' => Below W.heap.size W w' ∧
                          ((tabA D D x = none ∧ e = .returned (.tuple #[.slice none 0 0, .bool false])) ∨ ∃ go t vs, tabA D D x = some t ∧ e = .returned (.tuple #[.slice (some ⟨go, 0, none⟩) x x, .bool true]) ∧ t.length = x ∧ Own w' W.heap.size 81 1 (some ⟨go, 0, none⟩) x x vs ∧ Done w' W.heap.size w'.heap.size vs x t)) := Lib.hid fun W hW =>
                        bounds_any _ _ x x x W.heap.size D D W h1 h64 hW.reads hW.reads (Nat.le_refl _) hMD hMD hlD hlD
                      cases ht : tabA U U x with
                      | none =>
                        have HNT : Hid (newT x ps = none) := Lib.hid (by rw [HNEW.out, ht])
                        have HT := Lib.hid ht
                        clear ht
                        go_upto_region 43 with fail
                        go_region_held3 (fun w' => w'.cell? ⟨p, 0, none⟩ = some (.slice (some ⟨g1, 0, none⟩) x x)) ((first | go_keep | assumption))
                          ((go_at_call 51; refine (HC1.out _ (by first | exact hUp | exact hUp.drew)).mono ?_; rintro e w5 ⟨b5, h5⟩; obtain ⟨rfl⟩ : e = .returned (.tuple #[.slice none 0 0, .bool false]) := (by rcases h5 with ⟨_, h⟩ | ⟨_, _, _, h, _⟩; exact h; rw [HT.out] at h; cases h); have b6 := below_of_drew b5; have z0 := (b6.cell (p := ⟨p, 0, none⟩) hpl).trans k0; have B5 := hB.below b6 hpl; have z2 : w5.cell? ⟨p, 2, none⟩ = some (.slice none 0 0) := B5.cell 2; have z3 : w5.frozen? ⟨p, 2, none⟩ = false := B5.frozen 2; have z4 : (w5.setCell ⟨p, 2, none⟩ (.slice none 0 0)).cell? ⟨p, 0, none⟩ = some (.slice (some ⟨g1, 0, none⟩) x x) := (B5.set_ 2 _).cell 0))
                        go_wp2_with fail
                        go_ret2
                        exact ⟨(hb.trans (b6.mono hzs)).setCell (p := ⟨p, 2, none⟩) hpb _, .inl ⟨HNT.out, rfl⟩⟩
                      | some J =>
                        have HT := Lib.hid ht
                        have HNEW2 : Hid (newT x ps = match tabA D D x with | some m => some ⟨x, U, J, m⟩ | none => none) := Lib.hid (by rw [HNEW.out, ht]; cases tabA D D x <;> rfl)
                        clear ht
                        go_upto_region 43 with fail
                        go_region_held3 (fun w' => w'.cell? ⟨p, 0, none⟩ = some (.slice (some ⟨g1, 0, none⟩) x x)) ((first | go_keep | assumption))
                          ((go_at_call 51; refine (HC1.out _ (by first | exact hUp | exact hUp.drew)).mono ?_; rintro e w5 ⟨b5, h5⟩; obtain ⟨go, vs, rfl, hJl, hJO, hJD⟩ : ∃ go vs, e = .returned (.tuple #[.slice (some ⟨go, 0, none⟩) x x, .bool true]) ∧ J.length = x ∧ Own w5 wr.heap.size 81 1 (some ⟨go, 0, none⟩) x x vs ∧ Done w5 wr.heap.size w5.heap.size vs x J := (by rcases h5 with ⟨h, _⟩ | ⟨go, t, vs, h, he, hl, ho, hd⟩; rw [HT.out] at h; cases h; rw [HT.out] at h; cases h; exact ⟨go, vs, he, hl, ho, hd⟩); have b6 := below_of_drew b5; have z0 := (b6.cell (p := ⟨p, 0, none⟩) hpl).trans k0; have B5 := hB.below b6 hpl; have z2 : w5.cell? ⟨p, 2, none⟩ = some (.slice none 0 0) := B5.cell 2; have z3 : w5.frozen? ⟨p, 2, none⟩ = false := B5.frozen 2; have z4 : (w5.setCell ⟨p, 2, none⟩ (.slice (some ⟨go, 0, none⟩) x x)).cell? ⟨p, 0, none⟩ = some (.slice (some ⟨g1, 0, none⟩) x x) := (B5.set_ 2 _).cell 0))
                        have B6 : Blk (w5.setCell ⟨p, 2, none⟩ (.slice (some ⟨go, 0, none⟩) x x)) p 98 #[.slice (some ⟨g1, 0, none⟩) x x, .slice (some ⟨g2, 0, none⟩) x x, .slice (some ⟨go, 0, none⟩) x x, .slice none 0 0] := B5.set_ 2 _
                        have hUp6 := (hUp.below b6 (Nat.le_refl _)).setP (i := 2) B5 (by decide) (.slice (some ⟨go, 0, none⟩) x x)
                        have hDn6 := (hDn.below b6 (Nat.le_refl _)).setP (i := 2) B5 (by decide) (.slice (some ⟨go, 0, none⟩) x x)
                        have hJO6 := hJO.setP (i := 2) B5 (by decide) (.slice (some ⟨go, 0, none⟩) x x)
                        have hJD6 := hJD.setP (i := 2) B5 (by decide) (.slice (some ⟨go, 0, none⟩) x x)
                        have hb6 : Below w.heap.size w (w5.setCell ⟨p, 2, none⟩ (.slice (some ⟨go, 0, none⟩) x x)) := (hb.trans (b6.mono hzs)).setCell (p := ⟨p, 2, none⟩) hpb _
                        have hsz6 : (w5.setCell ⟨p, 2, none⟩ (.slice (some ⟨go, 0, none⟩) x x)).heap.size = w5.heap.size := by simp [World.setCell]
                        have hw5 : wr.heap.size ≤ w5.heap.size := b6.size
                        rw [← hsz6] at hJD6
                        clear hS hB hUp hDn hJO hJD B5 z0 z2 z3 z4 b5 b6 k0 hb HC1
                        generalize w5.setCell ⟨p, 2, none⟩ (.slice (some ⟨go, 0, none⟩) x x) = w6 at *
                        have hp6 := B6.lt
                        have k1 : w6.cell? ⟨p, 0 + 1, none⟩ = some (.slice (some ⟨g2, 0, none⟩) x x) := B6.cell 1
                        have hz6 : w.heap.size ≤ w6.heap.size := by omega
                        cases ht : tabA D D x with
                        | none =>
                          have HNT : Hid (newT x ps = none) := Lib.hid (by rw [HNEW2.out, ht])
                          have HT2 := Lib.hid ht
                          clear ht
                          go_upto_region 46 with fail
                          go_region_held3 (fun w' => w'.cell? ⟨p, 0 + 1, none⟩ = some (.slice (some ⟨g2, 0, none⟩) x x)) ((first | go_keep | assumption))
                            ((go_at_call 51; refine (HC2.out _ (by first | exact hDn6 | exact hDn6.drew)).mono ?_; rintro e w7 ⟨b7, h7⟩; obtain ⟨rfl⟩ : e = .returned (.tuple #[.slice none 0 0, .bool false]) := (by rcases h7 with ⟨_, h⟩ | ⟨_, _, _, h, _⟩; exact h; rw [HT2.out] at h; cases h); have b8 := below_of_drew b7; have z0 := (b8.cell (p := ⟨p, 0 + 1, none⟩) hp6).trans k1; have B7 := B6.below b8 hp6; have z2 : w7.cell? ⟨p, 3, none⟩ = some (.slice none 0 0) := B7.cell 3; have z3 : w7.frozen? ⟨p, 3, none⟩ = false := B7.frozen 3; have z4 : (w7.setCell ⟨p, 3, none⟩ (.slice none 0 0)).cell? ⟨p, 0 + 1, none⟩ = some (.slice (some ⟨g2, 0, none⟩) x x) := (B7.set_ 3 _).cell 1))
                          go_wp2_with fail
                          go_ret2
                          exact ⟨(hb6.trans (b8.mono hz6)).setCell (p := ⟨p, 3, none⟩) hpb _, .inl ⟨HNT.out, rfl⟩⟩
                        | some M =>
                          have HT2 := Lib.hid ht
                          have HNT : Hid (newT x ps = some ⟨x, U, J, M⟩) := Lib.hid (by rw [HNEW2.out, ht])
                          clear ht
                          go_upto_region 46 with fail
                          go_region_held3 (fun w' => w'.cell? ⟨p, 0 + 1, none⟩ = some (.slice (some ⟨g2, 0, none⟩) x x)) ((first | go_keep | assumption))
                            ((go_at_call 51; refine (HC2.out _ (by first | exact hDn6 | exact hDn6.drew)).mono ?_; rintro e w7 ⟨b7, h7⟩; obtain ⟨gm, vm, rfl, hMl, hMO, hMDn⟩ : ∃ gm vm, e = .returned (.tuple #[.slice (some ⟨gm, 0, none⟩) x x, .bool true]) ∧ M.length = x ∧ Own w7 w6.heap.size 81 1 (some ⟨gm, 0, none⟩) x x vm ∧ Done w7 w6.heap.size w7.heap.size vm x M := (by rcases h7 with ⟨h, _⟩ | ⟨gm, t, vm, h, he, hl, ho, hd⟩; rw [HT2.out] at h; cases h; rw [HT2.out] at h; cases h; exact ⟨gm, vm, he, hl, ho, hd⟩); have b8 := below_of_drew b7; have z0 := (b8.cell (p := ⟨p, 0 + 1, none⟩) hp6).trans k1; have B7 := B6.below b8 hp6; have z2 : w7.cell? ⟨p, 3, none⟩ = some (.slice none 0 0) := B7.cell 3; have z3 : w7.frozen? ⟨p, 3, none⟩ = false := B7.frozen 3; have z4 : (w7.setCell ⟨p, 3, none⟩ (.slice (some ⟨gm, 0, none⟩) x x)).cell? ⟨p, 0 + 1, none⟩ = some (.slice (some ⟨g2, 0, none⟩) x x) := (B7.set_ 3 _).cell 1))
                          have B8 : Blk (w7.setCell ⟨p, 3, none⟩ (.slice (some ⟨gm, 0, none⟩) x x)) p 98 #[.slice (some ⟨g1, 0, none⟩) x x, .slice (some ⟨g2, 0, none⟩) x x, .slice (some ⟨go, 0, none⟩) x x, .slice (some ⟨gm, 0, none⟩) x x] := B7.set_ 3 _
                          have hsz8 : (w7.setCell ⟨p, 3, none⟩ (.slice (some ⟨gm, 0, none⟩) x x)).heap.size = w7.heap.size := by simp [World.setCell]
                          have hw7 : w6.heap.size ≤ w7.heap.size := b8.size
                          have hUp8 := (hUp6.below b8 (Nat.le_refl _)).setP (i := 3) B7 (by decide) (.slice (some ⟨gm, 0, none⟩) x x)
                          have hJO8 := (hJO6.below b8 (Nat.le_refl _)).setP (i := 3) B7 (by decide) (.slice (some ⟨gm, 0, none⟩) x x)
                          have hJD8 := (hJD6.below b8 (Nat.le_refl _) hw7).setP (i := 3) B7 (by decide) (.slice (some ⟨gm, 0, none⟩) x x)
                          have hMO8 := hMO.setP (i := 3) B7 (by decide) (.slice (some ⟨gm, 0, none⟩) x x)
                          have hMD8 := hMDn.setP (i := 3) B7 (by decide) (.slice (some ⟨gm, 0, none⟩) x x)
                          have hb8 := (hb6.trans (b8.mono hz6)).setCell (p := ⟨p, 3, none⟩) hpb (.slice (some ⟨gm, 0, none⟩) x x)
                          rw [← hsz8] at hJD8 hMD8
                          clear B7 z0 z2 z3 z4 b7 b8 hMO hMDn B6 hUp6 hDn6 hJO6 hJD6 hb6
                          generalize w7.setCell ⟨p, 3, none⟩ (.slice (some ⟨gm, 0, none⟩) x x) = w8 at *
                          have HLat : Hid (LatR w8 w8.heap.size p ⟨x, U, J, M⟩) := Lib.hid ⟨B8.lt, _, _, _, _, _, _, _, _, _, B8, hUp8.reads, Done.tab hJO8 hJD8 hJl, Done.tab hMO8 hMD8 hMl⟩
                          clear hUp8 hJO8 hJD8 hMO8 hMD8
                          go_wp2_with fail
                          go_ret2
                          exact ⟨hb8, .inr ⟨p, ⟨x, U, J, M⟩, HNT.out, rfl, HLat.out⟩⟩
end Go.Proofs.YtgdnphmannbpgaaGreatDoor
