/-
  bowdlerlaw9.BlockLists: its walk: it answers true, and turns nothing that was there.
-/
import Derived.Test.YtommebalgghdjaaDoorBlockStart
import Derived.Test.YtommebalgghdjaaDoorBlockListLaw
namespace Go.Proofs.YtommebalgghdjaaDoor
open Go.RowKit

/-! ## the plain side -/
theorem digs_ten : ∀ v, v < 1014 → 10 ≤ v → digs v = digs (v / 10) ++ [UInt8.ofNat (48 + v % 10)] := by decide +kernel
theorem digs_one : ∀ v, v < 10 → digs v = [UInt8.ofNat (48 + v % 10)] := by decide +kernel
theorem digs_len : ∀ v, v < 1014 → (digs v).length ≤ 4 := by decide +kernel
theorem digit_nat : ∀ r, r < 10 → (UInt8.ofNat (48 + r)).toNat = 48 + r := by decide +kernel
/-- what the loop over the digits keeps -/
def runD (v : Nat) (d : List UInt8) : List UInt8 := if v = 0 ∧ d ≠ [] then d else digs v ++ d
theorem runD_step {v : Nat} {d : List UInt8} (hv : v < 1014) (h : 0 < v ∨ d = []) : runD (v / 10) (UInt8.ofNat (48 + v % 10) :: d) = runD v d := by
  have e : runD v d = digs v ++ d := by
    unfold runD
    rw [if_neg]
    rintro ⟨h1, h2⟩
    rcases h with h | h
    · omega
    · exact h2 h
  rw [e]
  by_cases h10 : v < 10
  · have h0 : v / 10 = 0 := by omega
    unfold runD
    rw [h0, if_pos ⟨rfl, by simp⟩, digs_one v h10]; rfl
  · unfold runD
    rw [if_neg (by rintro ⟨h1, _⟩; omega), digs_ten v hv (by omega), List.append_assoc]; rfl
def signAt (other : Bool) (n k : Nat) : UInt8 := if other && decide (k + 1 = n) then 41 else 46
def lineL (blank other : Bool) (n from_ k : Nat) : List Ln := itemLines blank (signAt other n k) (from_ + k)
def linesL (blank other : Bool) (n from_ : Nat) : Nat → List Ln
  | 0 => []
  | k + 1 => linesL blank other n from_ k ++ lineL blank other n from_ k
theorem linesL_len (blank other : Bool) (n from_ k : Nat) : (linesL blank other n from_ k).length = k * (if blank then 2 else 1) := by
  induction k with
  | zero => simp [linesL]
  | succ k ih => rw [linesL, List.length_append, ih]; cases blank <;> simp [lineL, itemLines] <;> omega
theorem linesL_rows (blank other : Bool) (n from_ k : Nat) (h : ∀ i, i < k → signAt other n i = 46) : linesL blank other n from_ k = rowsX blank 46 from_ k := by
  induction k with
  | zero => rfl
  | succ k ih => rw [linesL, rowsX_snoc, ih fun i hi => h i (by omega), lineL, h k (by omega)]
theorem rowX_len {sign : UInt8} {v : Nat} (h : v < 1014) : (rowX sign v).length ≤ 7 := by
  unfold rowX
  have := digs_len v h
  simp
  omega
theorem linesL_size (blank other : Bool) (n from_ : Nat) : ∀ k, from_ + k ≤ 1014 → ∀ x ∈ linesL blank other n from_ k, x.length ≤ 7
  | 0, _, x, hx => by cases hx
  | k + 1, h, x, hx => by
    rw [linesL] at hx
    rcases List.mem_append.1 hx with hx | hx
    · exact linesL_size blank other n from_ k (by omega) x hx
    · unfold lineL itemLines at hx
      rcases List.mem_cons.1 hx with rfl | hx
      · exact rowX_len (by omega)
      · cases blank
        · cases hx
        · have : x = [] := by simpa using hx
          rw [this]; decide
def cntK (c : Int) (l : List BlockT) : Nat := (l.filter fun b => b.kind == c).length
theorem cntK_app (c : Int) (a b : List BlockT) : cntK c (a ++ b) = cntK c a + cntK c b := by unfold cntK; rw [List.filter_append, List.length_append]
theorem cntK_snoc (c : Int) {l : List BlockT} {i : Nat} {x : BlockT} (hx : l[i]? = some x) : cntK c (l.take (i + 1)) = cntK c (l.take i) + (if x.kind = c then 1 else 0) := by
  rw [List.take_add_one, hx, Option.toList_some, cntK_app]
  by_cases h : x.kind = c
  · rw [if_pos h]; simp [cntK, h]
  · rw [if_neg h]; simp [cntK, h]
theorem cntK_le (c : Int) (l : List BlockT) : cntK c l ≤ l.length := List.length_filter_le _ _
theorem bodyBs_succ (n : Nat) : bodyBs (n + 1) = [⟨5, 1, 0, false, [], []⟩, ⟨1, 2, 0, false, [120], []⟩] ++ bodyBs n := by
  unfold bodyBs; rw [List.replicate_succ, List.flatten_cons]
theorem body_cnt (n : Nat) : cntK 4 (bodyBs n) = 0 ∧ cntK 5 (bodyBs n) = n ∧ cntK 1 (bodyBs n) = n ∧ ∀ b ∈ bodyBs n, b.kind = 4 ∨ b.kind = 5 ∨ b.kind = 1 := by
  induction n with
  | zero => exact ⟨rfl, rfl, rfl, fun b hb => by cases hb⟩
  | succ n ih =>
    obtain ⟨h1, h2, h3, h4⟩ := ih
    rw [bodyBs_succ]
    refine ⟨by rw [cntK_app, h1]; rfl, by rw [cntK_app, h2, show cntK 5 [⟨5, 1, 0, false, [], []⟩, ⟨1, 2, 0, false, [120], []⟩] = 1 from rfl]; omega, by rw [cntK_app, h3, show cntK 1 [⟨5, 1, 0, false, [], []⟩, ⟨1, 2, 0, false, [120], []⟩] = 1 from rfl]; omega, fun b hb => ?_⟩
    rcases List.mem_append.1 hb with hb | hb
    · simp only [List.mem_cons, List.not_mem_nil, or_false] at hb
      rcases hb with rfl | rfl
      · exact .inr (.inl rfl)
      · exact .inr (.inr rfl)
    · exact h4 b hb
theorem cntK_cons (c : Int) (x : BlockT) (l : List BlockT) : cntK c (x :: l) = (if x.kind = c then 1 else 0) + cntK c l := by
  rw [← List.singleton_append, cntK_app]
  by_cases h : x.kind = c
  · rw [if_pos h]; simp [cntK, h]
  · rw [if_neg h]; simp [cntK, h]
def tightOf (blank other : Bool) (n : Nat) : Bool := !blank || n == 1 || (other && n == 2)
/-- all that the law asks -/
theorem lists_all (blank other : Bool) {n from_ : Nat} (h1 : 1 ≤ n) (hv : from_ + n ≤ 1014) : ∃ b0 rest, parseT (linesL blank other n from_ n) = b0 :: rest ∧ b0.kind = 4 ∧ b0.n = from_ ∧ b0.tight = tightOf blank other n ∧
    (∀ b ∈ b0 :: rest, b.kind = 4 ∨ b.kind = 5 ∨ b.kind = 1) ∧ cntK 4 (b0 :: rest) = (if other = true ∧ 1 < n then 2 else 1) ∧ cntK 5 (b0 :: rest) = n ∧ cntK 1 (b0 :: rest) = n := by
  have one : ∀ (lb : BlockT) (m : Nat), lb.kind = 4 → cntK 4 (lb :: bodyBs m) = 1 ∧ cntK 5 (lb :: bodyBs m) = m ∧ cntK 1 (lb :: bodyBs m) = m ∧ ∀ b ∈ lb :: bodyBs m, b.kind = 4 ∨ b.kind = 5 ∨ b.kind = 1 := fun lb m hk => by
    obtain ⟨g1, g2, g3, g4⟩ := body_cnt m
    refine ⟨by rw [cntK_cons, hk, g1]; rfl, by rw [cntK_cons, hk, g2]; simp, by rw [cntK_cons, hk, g3]; simp, fun b hb => ?_⟩
    rcases List.mem_cons.1 hb with rfl | hb
    · exact .inl hk
    · exact g4 b hb
  by_cases ho : other = true
  · subst ho
    obtain ⟨j, rfl⟩ : ∃ j, n = j + 1 := ⟨n - 1, by omega⟩
    have hl : linesL blank true (j + 1) from_ (j + 1) = rowsX blank 46 from_ j ++ itemLines blank 41 (from_ + j) := by
      rw [linesL, linesL_rows _ _ _ _ _ (fun i hi => by unfold signAt; rw [decide_eq_false (by omega)]; rfl), lineL, show signAt true (j + 1) j = 41 from by unfold signAt; rw [decide_eq_true rfl]; rfl]
    rw [hl]
    rcases Nat.eq_zero_or_pos j with h0 | hj
    · subst h0
      have e := lists_last blank from_ (by omega)
      obtain ⟨g1, g2, g3, g4⟩ := one (listB 0 from_ true 41) 1 rfl
      refine ⟨_, _, e, rfl, rfl, ?_, g4, g1.trans rfl, g2, g3⟩
      show true = tightOf blank true 1
      unfold tightOf
      cases blank <;> rfl
    · have e := lists_other blank from_ j hj (by omega)
      obtain ⟨g1, g2, g3, g4⟩ := one (listB 0 from_ (!blank || j == 1) 46) j rfl
      obtain ⟨k1, k2, k3, k4⟩ := one (listB 0 (from_ + j : Nat) true 41) 1 rfl
      rw [List.cons_append] at e
      refine ⟨_, _, e, rfl, rfl, ?_, ?_, ?_, ?_, ?_⟩
      · show (!blank || j == 1) = tightOf blank true (j + 1)
        unfold tightOf
        have a1 : (j + 1 == 1) = false := by simp; omega
        have a2 : (j + 1 == 2) = (j == 1) := by
          by_cases h : j = 1
          · subst h; rfl
          · have x1 : (j == 1) = false := by simpa using h
            have x2 : (j + 1 == 2) = false := by simp; omega
            rw [x1, x2]
        rw [a1, a2]
        cases blank <;> simp
      · intro b hb
        rw [← List.cons_append] at hb
        rcases List.mem_append.1 hb with hb | hb
        · exact g4 b hb
        · exact k4 b hb
      · rw [← List.cons_append, cntK_app, g1, k1, if_pos ⟨rfl, by omega⟩]
      · rw [← List.cons_append, cntK_app, g2, k2]
      · rw [← List.cons_append, cntK_app, g3, k3]
  · have ho' : other = false := by simpa using ho
    subst ho'
    rw [linesL_rows _ _ _ _ _ (fun i hi => rfl), lists_law blank from_ n (by omega) hv]
    obtain ⟨g1, g2, g3, g4⟩ := one (listB 0 from_ (!blank || n == 1) 46) n rfl
    refine ⟨_, _, rfl, rfl, rfl, ?_, g4, g1.trans rfl, g2, g3⟩
    show (!blank || n == 1) = tightOf blank false n
    unfold tightOf
    simp

/-! ## the walk -/
theorem digit_cons (c : UInt8) (d : List UInt8) : S [c] ++ S d = S (c :: d) := by rw [S_append]; rfl

set_option maxHeartbeats 8000000 in
set_option maxRecDepth 100000 in
theorem blockLists_walk (nn ff : Int) (blank other : Bool) (w : World) (_ : Glb w) (_ : (Lit.int .i64 nn).wf = true) (_ : (Lit.int .i64 ff).wf = true) :
    Calls Tryd.prog 8 #[.int .i64 nn, .int .i64 ff, .bool blank, .bool other] w fun e w' => e = .returned (.bool true) ∧ Below w.heap.size w w' := by
  by_cases hin : 1 ≤ nn ∧ nn ≤ 15 ∧ 0 ≤ ff ∧ ff ≤ 999
  · obtain ⟨h1, h15, hf0, hf9⟩ := hin
    obtain ⟨n, rfl⟩ := Int.eq_ofNat_of_zero_le (a := nn) (by omega)
    obtain ⟨fr, rfl⟩ := Int.eq_ofNat_of_zero_le (a := ff) (by omega)
    go_enter Tryd.func8, Tryd.ntmps8
    go_wp2_with (go_at_call 16; refine (aliveB_any _).mono ?_; rintro e w1 ⟨rfl, b1⟩)
    have z1 := b1.size
    obtain ⟨u, hu⟩ : ∃ u : Nat, (if blank then 2 else 1) = u := ⟨_, rfl⟩
    have hu2 : 1 ≤ u ∧ u ≤ 2 := by rw [← hu]; split <;> omega
    have HU := Lib.hid hu
    clear hu
    go_loopw [9, 10] (fun s9 s10 wr => ∃ (k : Nat) (A3 : Option Addr) (c3 : Nat), k ≤ n ∧ s10 = .int .i64 k ∧ s9 = .slice A3 (k * u) c3 ∧ Own wr w.heap.size 9 1 A3 (k * u) c3 (txCells ((linesL blank other n fr k).map S)) ∧ Below w.heap.size w wr) (fun _ s10 _ => n - (intOf s10).toNat)
    case atStart => exact ⟨0, none, 0, Nat.zero_le _, rfl, by rw [Nat.zero_mul], by rw [Nat.zero_mul]; exact Own.nil _ _ _ _, b1⟩
    case round =>
      clear b1
      obtain ⟨k, A3, c3, hk, rfl, rfl, hown, hb⟩ := hrel
      have hzw := hb.size
      have hku : k * u ≤ 30 := by have := Nat.mul_le_mul hk hu2.2; omega
      by_cases hlt : k < n
      · obtain ⟨N, hN⟩ : ∃ N, fr + k = N := ⟨_, rfl⟩
        have hNs : N < 1014 := by omega
        have x0 : IntKind.wrap .i64 ((fr : Int) + (k : Int)) = (N : Int) := by rw [IntWalk.i64_in _ (by omega)]; omega
        have HN := Lib.hid hN
        clear hN
        go_wp2_with fail
        go_loopw [11, 12] (fun s11 s12 wq => ∃ (v : Nat) (d : List UInt8), s12 = .int .i64 v ∧ s11 = .string (S d) ∧ v < 1014 ∧ runD v d = digs N ∧ Own wq w.heap.size 9 1 A3 (k * u) c3 (txCells ((linesL blank other n fr k).map S)) ∧ Below w.heap.size w wq) (fun s11 s12 _ => (intOf s12).toNat + (match s11 with | .string b => (if b.size = 0 then 1 else 0) | _ => 0))
        case atStart => exact ⟨N, [], rfl, rfl, hNs, by unfold runD; rw [if_neg (by simp), List.append_nil], hown, hb⟩
        case round =>
          clear hown hb x0
          obtain ⟨v, d, rfl, rfl, hv, hrun, hown, hb⟩ := hrel
          have hzq := hb.size
          have hdl : d.length ≤ 4 := by
            have h1 := digs_len N hNs
            rw [← hrun] at h1
            unfold runD at h1
            split at h1
            · exact h1
            · rw [List.length_append] at h1; omega
          have HRUN := Lib.hid hrun
          clear hrun
          by_cases hgo : 0 < v ∨ d = []
          · obtain ⟨r, hr⟩ : ∃ r, v % 10 = r := ⟨_, rfl⟩
            have hr10 : r < 10 := by omega
            obtain ⟨v', hv'⟩ : ∃ v', v / 10 = v' := ⟨_, rfl⟩
            have hstep := runD_step hv hgo
            rw [hr, hv', HRUN.out] at hstep
            have hc := digit_nat r hr10
            obtain ⟨c, hce⟩ : ∃ c, UInt8.ofNat (48 + r) = c := ⟨_, rfl⟩
            rw [hce] at hc hstep
            have hci : ((c.toNat : Nat) : Int) = 48 + (r : Int) := by rw [hc]; omega
            have x1 : (v : Int).tmod 10 = (r : Int) := by rw [← hr]; rfl
            have x3 : (v : Int).tdiv 10 = (v' : Int) := by rw [← hv']; rfl
            have x2 : IntKind.wrap .u8 (48 + (r : Int)) = 48 + (r : Int) := by
              have : ∀ r : Nat, r < 10 → IntKind.wrap .u8 (48 + (r : Int)) = 48 + (r : Int) := by decide
              exact this r hr10
            have hcv := convert_byte c wr
            rw [hci] at hcv
            have HS := Lib.hid (digit_cons c d)
            have HSTEP := Lib.hid hstep
            have hds : (S d).size ≤ 4 := by rw [size_S]; exact hdl
            have hcs : (S [c]).size = 1 := by rw [size_S]; rfl
            have r1 : ¬ 9223372036854775807 < (S [c]).size + (S d).size := by omega
            have hv1014 : v' < 1014 := by omega
            have hdec : 0 < v → v' < v := by omega
            have hle : v' ≤ v := by omega
            have HCS : Hid (¬ (S (c :: d)).size = 0) := Lib.hid (by rw [size_S]; simp)
            have HD0 : Hid (d = [] → (S d).size = 0) := Lib.hid (fun h => by rw [h]; rfl)
            clear hstep hc hci hce hr hv'
            have HCD : Hid (¬ (S [c] ++ S d).size = 0) := Lib.hid (by rw [ByteArray.size_append, hcs]; omega)
            rcases Nat.eq_zero_or_pos v with h0 | hpos
            · have hd : d = [] := by rcases hgo with h | h; exact absurd h (by omega); exact h
              have HE : Hid (S d = ⟨#[]⟩) := Lib.hid (by rw [hd]; rfl)
              have nq : ¬ 0 < v := by omega
              clear hgo h0 hd hdec
              rw [HE.out] at HS HCD r1 ⊢
              generalize S [c] = C at *
              go_wp2_with fail
              go_roundw
              case rel => exact ⟨v', c :: d, rfl, by rw [HS.out], hv1014, HSTEP.out, hown.alloc _, hb.alloc hzq _⟩
              case measure =>
                have e1 := HCD.out
                show (v' : Int).toNat + (if (C ++ (⟨#[]⟩ : ByteArray)).size = 0 then 1 else 0) < (v : Int).toNat + (if (⟨#[]⟩ : ByteArray).size = 0 then 1 else 0)
                rw [if_neg e1, if_pos (show (⟨#[]⟩ : ByteArray).size = 0 from rfl)]
                omega
            · generalize S [c] = C at *
              generalize S d = D at *
              clear hgo
              go_wp2_with fail
              go_roundw
              case rel => exact ⟨v', c :: d, rfl, by rw [HS.out], hv1014, HSTEP.out, hown.alloc _, hb.alloc hzq _⟩
              case measure =>
                have e1 := HCD.out
                show (v' : Int).toNat + (if (C ++ D).size = 0 then 1 else 0) < (v : Int).toNat + (if D.size = 0 then 1 else 0)
                rw [if_neg e1]
                split <;> omega
          · have hv0 : v = 0 := by omega
            have hdn : d ≠ [] := fun h => hgo (.inr h)
            have hDN : S d = S (digs N) := by
              rw [← HRUN.out]
              unfold runD
              rw [if_pos ⟨hv0, hdn⟩]
            have hds : ¬ (S d).size = 0 := by rw [size_S]; exact fun h => hdn (List.eq_nil_of_length_eq_zero h)
            have hd4 : (S d).size ≤ 4 := by rw [size_S]; exact hdl
            have HDN := Lib.hid hDN
            have nq : ¬ 0 < v := by omega
            clear hgo hv0 hdn hDN hdl
            generalize S d = D at *
            obtain ⟨t1, t2, t3⟩ := bytes_some hds
            clear hds
            obtain ⟨sg, hsg⟩ : ∃ sg, signAt other n k = sg := ⟨_, rfl⟩
            have hline : lineL blank other n fr k = itemLines blank sg N := by unfold lineL; rw [hsg, HN.out]
            have HLINE : Hid ((linesL blank other n fr (k + 1)).map S = (linesL blank other n fr k).map S ++ (S (rowX sg N) :: (if blank then [(⟨#[]⟩ : ByteArray)] else []))) := Lib.hid (by
              rw [linesL, hline, List.map_append]
              unfold itemLines
              cases blank <;> rfl)
            clear hline
            have hrow : ∀ c : UInt8, sg = c → D ++ (⟨#[c]⟩ : ByteArray) ++ (⟨#[32, 120]⟩ : ByteArray) = S (rowX sg N) := fun c hc => by
              rw [hc, HDN.out, S_append, S_append]
              unfold rowX
              rw [List.append_assoc]; rfl
            have hcases : (other = false ∧ sg = 46) ∨ (other = true ∧ k + 1 = n ∧ sg = 41) ∨ (other = true ∧ ¬ k + 1 = n ∧ sg = 46) := by
              unfold signAt at hsg
              cases other
              · exact .inl ⟨rfl, hsg.symm⟩
              · by_cases hk1 : k + 1 = n
                · rw [decide_eq_true hk1] at hsg
                  exact .inr (.inl ⟨rfl, hk1, hsg.symm⟩)
                · rw [decide_eq_false hk1] at hsg
                  exact .inr (.inr ⟨rfl, hk1, hsg.symm⟩)
            clear hsg
            have hzq' := hb.size
            have hk1u : (k + 1) * u = k * u + u := by rw [Nat.add_mul, Nat.one_mul]
            have HK1U := Lib.hid hk1u
            clear hk1u
            have hr12 : ∀ c : UInt8, (¬ 9223372036854775807 < D.size + (⟨#[c]⟩ : ByteArray).size) ∧ ¬ 9223372036854775807 < (D ++ (⟨#[c]⟩ : ByteArray)).size + (⟨#[32, 120]⟩ : ByteArray).size := fun c => by
              have e1 : (⟨#[c]⟩ : ByteArray).size = 1 := rfl
              have e2 : (⟨#[32, 120]⟩ : ByteArray).size = 2 := rfl
              rw [ByteArray.size_append, e1, e2]
              omega
            have HR12 := Lib.hid hr12
            have HHROW := Lib.hid hrow
            clear hrow hr12
            rcases hcases with ⟨rfl, h2⟩ | ⟨rfl, h2, h3⟩ | ⟨rfl, h2, h3⟩
            · have HROW := Lib.hid (HHROW.out 46 h2)
              obtain ⟨r1, r2⟩ := HR12.out 46
              have H2 := Lib.hid h2
              clear h2
              cases blank
              · have hu1 : u = 1 := HU.out.symm
                have HU1 := Lib.hid hu1
                clear hu1
                go_wp2_with (at_builtin; refine wpList_app1 Tryd.elTexts rfl (.tmp 70) (.tmp 75) rfl rfl (by exact hown.alloc _) rfl (Blk.new' _ _ _ _ (by simp)) rfl (by simp [Value.oneCell']) (by simp only [maxLen]; omega) (by omega) (by simp; omega) ?_
                             intro A4 c4 w5 hown4 ho4 hm4)
                go_roundw
                case rel =>
                  refine ⟨k + 1, A4, c4, by omega, by go_num, by rw [HK1U.out, HU1.out], ?_, hb.trans (ho4.of_alloc.below (fun a ha => (hown.lt ha).1) hzq')⟩
                  rw [HLINE.out, HK1U.out]
                  rw [HROW.out] at hown4
                  have e := HU1.out
                  subst e
                  simpa [txCells] using hown4
                case measure => simp [intOf]; omega
              · have hu1 : u = 2 := HU.out.symm
                have HU1 := Lib.hid hu1
                clear hu1
                go_wp2_with (first
                  | (at_builtin; refine wpList_app1 Tryd.elTexts rfl (.tmp 70) (.tmp 75) rfl rfl (by exact hown.alloc _) rfl (Blk.new' _ _ _ _ (by simp)) rfl (by simp [Value.oneCell']) (by simp only [maxLen]; omega) (by omega) (by simp; omega) ?_
                     intro A4 c4 w5 hown4 ho4 hm4
                     have hb5 := hb.trans (ho4.of_alloc.below (fun a ha => (hown.lt ha).1) hzq')
                     have hz5 := hb5.size)
                  | (at_builtin; refine wpList_app1 Tryd.elTexts rfl (.tmp 78) (.tmp 79) rfl rfl (by exact hown4.alloc _) rfl (Blk.new' _ _ _ _ (by simp)) rfl (by simp [Value.oneCell']) (by simp only [maxLen]; omega) (by omega) (by simp; omega) ?_
                     intro A6 c6 w6 hown6 ho6 hm6))
                go_roundw
                case rel =>
                  refine ⟨k + 1, A6, c6, by omega, by go_num, by rw [HK1U.out, HU1.out], ?_, hb5.trans (ho6.of_alloc.below (fun a ha => (hown4.lt ha).1) hz5)⟩
                  rw [HLINE.out, HK1U.out]
                  rw [HROW.out] at hown6
                  have e := HU1.out
                  subst e
                  simpa [txCells] using hown6
                case measure => simp [intOf]; omega
            · have HROW := Lib.hid (HHROW.out 41 h3)
              obtain ⟨r1, r2⟩ := HR12.out 41
              have q5 : ((k : Int) == (n : Int) - 1) = true := by simp; omega
              have H2 := Lib.hid h2
              clear h2 h3
              cases blank
              · have hu1 : u = 1 := HU.out.symm
                have HU1 := Lib.hid hu1
                clear hu1
                go_wp2_with (at_builtin; refine wpList_app1 Tryd.elTexts rfl (.tmp 70) (.tmp 75) rfl rfl (by exact hown.alloc _) rfl (Blk.new' _ _ _ _ (by simp)) rfl (by simp [Value.oneCell']) (by simp only [maxLen]; omega) (by omega) (by simp; omega) ?_
                             intro A4 c4 w5 hown4 ho4 hm4)
                go_roundw
                case rel =>
                  refine ⟨k + 1, A4, c4, by omega, by go_num, by rw [HK1U.out, HU1.out], ?_, hb.trans (ho4.of_alloc.below (fun a ha => (hown.lt ha).1) hzq')⟩
                  rw [HLINE.out, HK1U.out]
                  rw [HROW.out] at hown4
                  have e := HU1.out
                  subst e
                  simpa [txCells] using hown4
                case measure => simp [intOf]; omega
              · have hu1 : u = 2 := HU.out.symm
                have HU1 := Lib.hid hu1
                clear hu1
                go_wp2_with (first
                  | (at_builtin; refine wpList_app1 Tryd.elTexts rfl (.tmp 70) (.tmp 75) rfl rfl (by exact hown.alloc _) rfl (Blk.new' _ _ _ _ (by simp)) rfl (by simp [Value.oneCell']) (by simp only [maxLen]; omega) (by omega) (by simp; omega) ?_
                     intro A4 c4 w5 hown4 ho4 hm4
                     have hb5 := hb.trans (ho4.of_alloc.below (fun a ha => (hown.lt ha).1) hzq')
                     have hz5 := hb5.size)
                  | (at_builtin; refine wpList_app1 Tryd.elTexts rfl (.tmp 78) (.tmp 79) rfl rfl (by exact hown4.alloc _) rfl (Blk.new' _ _ _ _ (by simp)) rfl (by simp [Value.oneCell']) (by simp only [maxLen]; omega) (by omega) (by simp; omega) ?_
                     intro A6 c6 w6 hown6 ho6 hm6))
                go_roundw
                case rel =>
                  refine ⟨k + 1, A6, c6, by omega, by go_num, by rw [HK1U.out, HU1.out], ?_, hb5.trans (ho6.of_alloc.below (fun a ha => (hown4.lt ha).1) hz5)⟩
                  rw [HLINE.out, HK1U.out]
                  rw [HROW.out] at hown6
                  have e := HU1.out
                  subst e
                  simpa [txCells] using hown6
                case measure => simp [intOf]; omega
            · have HROW := Lib.hid (HHROW.out 46 h3)
              obtain ⟨r1, r2⟩ := HR12.out 46
              have q5 : ((k : Int) == (n : Int) - 1) = false := by simp; omega
              have H2 := Lib.hid h2
              clear h2 h3
              cases blank
              · have hu1 : u = 1 := HU.out.symm
                have HU1 := Lib.hid hu1
                clear hu1
                go_wp2_with (at_builtin; refine wpList_app1 Tryd.elTexts rfl (.tmp 70) (.tmp 75) rfl rfl (by exact hown.alloc _) rfl (Blk.new' _ _ _ _ (by simp)) rfl (by simp [Value.oneCell']) (by simp only [maxLen]; omega) (by omega) (by simp; omega) ?_
                             intro A4 c4 w5 hown4 ho4 hm4)
                go_roundw
                case rel =>
                  refine ⟨k + 1, A4, c4, by omega, by go_num, by rw [HK1U.out, HU1.out], ?_, hb.trans (ho4.of_alloc.below (fun a ha => (hown.lt ha).1) hzq')⟩
                  rw [HLINE.out, HK1U.out]
                  rw [HROW.out] at hown4
                  have e := HU1.out
                  subst e
                  simpa [txCells] using hown4
                case measure => simp [intOf]; omega
              · have hu1 : u = 2 := HU.out.symm
                have HU1 := Lib.hid hu1
                clear hu1
                go_wp2_with (first
                  | (at_builtin; refine wpList_app1 Tryd.elTexts rfl (.tmp 70) (.tmp 75) rfl rfl (by exact hown.alloc _) rfl (Blk.new' _ _ _ _ (by simp)) rfl (by simp [Value.oneCell']) (by simp only [maxLen]; omega) (by omega) (by simp; omega) ?_
                     intro A4 c4 w5 hown4 ho4 hm4
                     have hb5 := hb.trans (ho4.of_alloc.below (fun a ha => (hown.lt ha).1) hzq')
                     have hz5 := hb5.size)
                  | (at_builtin; refine wpList_app1 Tryd.elTexts rfl (.tmp 78) (.tmp 79) rfl rfl (by exact hown4.alloc _) rfl (Blk.new' _ _ _ _ (by simp)) rfl (by simp [Value.oneCell']) (by simp only [maxLen]; omega) (by omega) (by simp; omega) ?_
                     intro A6 c6 w6 hown6 ho6 hm6))
                go_roundw
                case rel =>
                  refine ⟨k + 1, A6, c6, by omega, by go_num, by rw [HK1U.out, HU1.out], ?_, hb5.trans (ho6.of_alloc.below (fun a ha => (hown4.lt ha).1) hz5)⟩
                  rw [HLINE.out, HK1U.out]
                  rw [HROW.out] at hown6
                  have e := HU1.out
                  subst e
                  simpa [txCells] using hown6
                case measure => simp [intOf]; omega
      · have hkn : k = n := by omega
        subst hkn
        obtain ⟨b0, rest, hp0, hk4, hbn, hbt, hkinds, hc4, hc5, hc1⟩ := lists_all blank other (n := k) (from_ := fr) (by omega) (by omega)
        have hsizes := linesL_size blank other k fr k (by omega)
        have hp := parse_any wr.heap.size ((linesL blank other k fr k).map S) A3 (k * u) c3 wr hown.reads (Nat.le_refl _) (lnOk_of (by
          intro y hy
          obtain ⟨x, hx, rfl⟩ := List.mem_map.1 hy
          have := hsizes x hx
          rw [size_S]; omega)) (by omega) hown.cap
        rw [show ((linesL blank other k fr k).map S).map L = linesL blank other k fr k by rw [List.map_map]; exact List.map_id' _, hp0] at hp
        have hlen : (b0 :: rest).length ≤ 1000 := by
          have := parse_len (linesL blank other k fr k)
          rw [hp0, linesL_len, HU.out] at this
          omega
        have HP := Lib.hid hp
        clear hp hp0 hsizes hown
        obtain ⟨bs, hbs⟩ : ∃ bs, b0 :: rest = bs := ⟨_, rfl⟩
        have hb0 : bs[0]? = some b0 := by rw [← hbs]; rfl
        rw [hbs] at HP hkinds hc4 hc5 hc1 hlen
        have HB0 := Lib.hid hb0
        have HK := Lib.hid hkinds
        have HC4 := Lib.hid hc4
        have HC5 := Lib.hid hc5
        have HC1 := Lib.hid hc1
        have HBN := Lib.hid hbn
        have HBT := Lib.hid hbt
        have HLEN := Lib.hid hlen
        clear hbs hb0 hkinds hc4 hc5 hc1 hbn hbt hk4 hlen
        go_upto_region 19 with (go_at_call 17; refine HP.out.mono ?_; rintro e w3 ⟨Ao, m, co, rfl, hm, hO, b3⟩)
        have hb3 := hb.trans (b3.mono hzw)
        have HM := Lib.hid hm
        have hms : m ≤ 1000 := by rw [← hm]; exact HLEN.out
        clear b3 HP hm
        go_wp2_with fail
        go_loop [15, 16, 17, 85] (fun s15 s16 s17 s85 => ∃ q : Nat, q ≤ m ∧ s85 = .int .i64 q ∧ s15 = .int .i64 (cntK 4 (bs.take q)) ∧ s16 = .int .i64 (cntK 5 (bs.take q)) ∧ s17 = .int .i64 (cntK 1 (bs.take q))) (fun _ _ _ s85 => m - (intOf s85).toNat)
        case atStart => exact ⟨0, Nat.zero_le _, rfl, rfl, rfl, rfl⟩
        case round =>
          obtain ⟨q, hq, rfl, rfl, rfl, rfl⟩ := hrel
          by_cases hqm : q < m
          · obtain ⟨x, hx⟩ : ∃ x, bs[q]? = some x := ⟨_, List.getElem?_eq_getElem (by rw [HM.out]; exact hqm)⟩
            obtain ⟨ad, rfl, _, c0, _, c2, c3', _, _⟩ := hO.reads.blk hx hqm
            have hkx := HK.out x (List.mem_of_getElem? hx)
            have a4 := cntK_snoc 4 hx
            have a5 := cntK_snoc 5 hx
            have a1 := cntK_snoc 1 hx
            have l4 : cntK 4 (bs.take q) ≤ 1000 := Nat.le_trans (cntK_le _ _) (by rw [List.length_take]; have := Nat.min_le_left q bs.length; omega)
            have l5 : cntK 5 (bs.take q) ≤ 1000 := Nat.le_trans (cntK_le _ _) (by rw [List.length_take]; have := Nat.min_le_left q bs.length; omega)
            have l1 : cntK 1 (bs.take q) ≤ 1000 := Nat.le_trans (cntK_le _ _) (by rw [List.length_take]; have := Nat.min_le_left q bs.length; omega)
            have HX := Lib.hid hx
            rcases hkx with h | h | h
            · rw [h] at a4 a5 a1 c0
              have A4 := Lib.hid a4
              have A5 := Lib.hid a5
              have A1 := Lib.hid a1
              clear a4 a5 a1 h hx hO
              generalize cntK 4 (bs.take q) = q4 at *
              generalize cntK 5 (bs.take q) = q5 at *
              generalize cntK 1 (bs.take q) = q1 at *
              by_cases hq0 : q = 0
              · have hxb : x = b0 := by
                  have h1 := HX.out
                  rw [hq0, HB0.out] at h1
                  exact (Option.some.inj h1).symm
                have hxn : x.n = (fr : Int) := by rw [hxb]; exact HBN.out
                have hT : x.tight = tightOf blank other k := by rw [hxb]; exact HBT.out
                rw [hxn] at c2
                rw [hT] at c3'
                have qz : ((q : Int) == 0) = true := by simp; omega
                have HQ0 := Lib.hid hq0
                clear hxb hxn hT hq0
                have hn : (((k == 1) = true ∧ (k == 2) = false) ∧ ((k : Int) == 1) = true ∧ ((k : Int) == 2) = false) ∨ (((k == 1) = false ∧ (k == 2) = true) ∧ ((k : Int) == 1) = false ∧ ((k : Int) == 2) = true) ∨ (((k == 1) = false ∧ (k == 2) = false) ∧ ((k : Int) == 1) = false ∧ ((k : Int) == 2) = false) := by
                  by_cases e1 : k = 1
                  · subst e1; exact .inl ⟨⟨rfl, rfl⟩, rfl, rfl⟩
                  · by_cases e2 : k = 2
                    · subst e2; exact .inr (.inl ⟨⟨rfl, rfl⟩, rfl, rfl⟩)
                    · exact .inr (.inr ⟨⟨by simpa using e1, by simpa using e2⟩, by simp; omega, by simp; omega⟩)
                rcases hn with ⟨⟨g1, g2⟩, g3, g4⟩ | ⟨⟨g1, g2⟩, g3, g4⟩ | ⟨⟨g1, g2⟩, g3, g4⟩
                all_goals
                  unfold tightOf at c3'
                  rw [g1, g2] at c3'
                  clear g1 g2
                  cases blank
                  all_goals
                    cases other
                    all_goals
                      simp only [Bool.not_true, Bool.not_false, Bool.or_true, Bool.or_false, Bool.and_true, Bool.and_false] at c3'
                      go_wp2_with fail
                      go_round
                      case rel => exact ⟨q + 1, by omega, by go_num, by rw [A4.out]; go_num, by rw [A5.out]; rfl, by rw [A1.out]; rfl⟩
                      case measure => simp [intOf]; omega
              · have qz : ((q : Int) == 0) = false := by simp; omega
                clear hq0 c2 c3'
                go_wp2_with fail
                go_round
                case rel => exact ⟨q + 1, by omega, by go_num, by rw [A4.out]; go_num, by rw [A5.out]; rfl, by rw [A1.out]; rfl⟩
                case measure => simp [intOf]; omega
            · rw [h] at a4 a5 a1 c0
              have A4 := Lib.hid a4
              have A5 := Lib.hid a5
              have A1 := Lib.hid a1
              clear a4 a5 a1 h hx hO c2 c3'
              generalize cntK 4 (bs.take q) = q4 at *
              generalize cntK 5 (bs.take q) = q5 at *
              generalize cntK 1 (bs.take q) = q1 at *
              go_wp2_with fail
              go_round
              case rel => exact ⟨q + 1, by omega, by go_num, by rw [A4.out]; rfl, by rw [A5.out]; go_num, by rw [A1.out]; rfl⟩
              case measure => simp [intOf]; omega
            · rw [h] at a4 a5 a1 c0
              have A4 := Lib.hid a4
              have A5 := Lib.hid a5
              have A1 := Lib.hid a1
              clear a4 a5 a1 h hx hO c2 c3'
              generalize cntK 4 (bs.take q) = q4 at *
              generalize cntK 5 (bs.take q) = q5 at *
              generalize cntK 1 (bs.take q) = q1 at *
              go_wp2_with fail
              go_round
              case rel => exact ⟨q + 1, by omega, by go_num, by rw [A4.out]; rfl, by rw [A5.out]; rfl, by rw [A1.out]; go_num⟩
              case measure => simp [intOf]; omega
          · have hqn : q = m := by omega
            subst hqn
            rw [List.take_of_length_le (by rw [HM.out]; exact Nat.le_refl _), HC4.out, HC5.out, HC1.out]
            clear hO
            cases other
            · go_wp2_with fail
              go_ret
              exact ⟨rfl, hb3⟩
            · by_cases hk1 : 1 < k
              · go_wp2_with fail
                go_ret
                exact ⟨rfl, hb3⟩
              · go_wp2_with fail
                go_ret
                exact ⟨rfl, hb3⟩
  · have hcs : nn < 1 ∨ (¬ nn < 1 ∧ 15 < nn) ∨ (¬ nn < 1 ∧ ¬ 15 < nn ∧ ff < 0) ∨ (¬ nn < 1 ∧ ¬ 15 < nn ∧ ¬ ff < 0 ∧ 999 < ff) := by omega
    clear hin
    rcases hcs with h | ⟨h, h'⟩ | ⟨h, h', h''⟩ | ⟨h, h', h'', h3⟩
    all_goals
      go_enter Tryd.func8, Tryd.ntmps8
      go_wp2_with (go_at_call 16; refine (aliveB_any _).mono ?_; rintro e w1 ⟨rfl, b1⟩)
      go_ret
      exact ⟨rfl, b1⟩
end Go.Proofs.YtommebalgghdjaaDoor
