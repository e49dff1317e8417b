/-
  bowdlerlaw6.HeadingLabels: its walk: it answers true, and turns nothing that was there.
-/
import Derived.Test.YtgmkjjccnlnpoaaDoorTakes
import Derived.OpenShut
import Derived.Laws.IdiomStrings
namespace Go.Proofs.YtgmkjjccnlnpoaaDoor
open Go.RowKit
open Go.ChangeShapes Go.WideShapes

def Low2 (a b : ByteArray) (k : Nat) : Prop := (1 ≤ k → lowT (L a) = true) ∧ (2 ≤ k → lowT (L b) = true)
theorem low_next {a b x : ByteArray} {k : Nat} (hk : k < 2) (h : Low2 a b k) (hx : [a, b][k]? = some x) (hc : lowT (L x) = true) : Low2 a b (k + 1) := by
  obtain ⟨h1, h2⟩ := h
  match k, hk with
  | 0, _ =>
    injection hx with hx; subst hx
    exact ⟨fun _ => hc, fun _ => by omega⟩
  | 1, _ =>
    injection hx with hx; subst hx
    exact ⟨fun _ => h1 (by omega), fun _ => hc⟩
theorem rep_snoc (l : List UInt8) (n : Nat) (b : UInt8) : S (l ++ List.replicate n b) ++ (⟨#[b]⟩ : ByteArray) = S (l ++ List.replicate (n + 1) b) := by
  apply L_inj
  rw [L_append, L_S, L_S, List.replicate_succ', List.append_assoc]
  rfl

/-- the three answers -/
theorem heads_law (n blanks : Nat) (text label : List UInt8) (bad : UInt8) (hn : 1 ≤ n) (hl : lowT label = true) (h1 : 1 ≤ label.length) (h2 : label.length ≤ 40) :
    headedT (headL n blanks text ++ [123, 61] ++ label ++ [125, 32, 32]) = (if n ≤ 6 ∧ blanks ≤ 3 then some (headL n blanks text, label) else none) ∧
    headedT (headL n blanks text ++ [123, 61] ++ label ++ [125, 32, 120]) = none ∧
    (headedV (headedT (headL n blanks text ++ [123, 61] ++ label ++ [bad] ++ [125])) = headedV (if (n ≤ 6 ∧ blanks ≤ 3) ∧ label.length < 40 ∧ (L badC).contains bad = false then some (headL n blanks text, label ++ [bad]) else none)) := by
  have h123 := low_not hl 123 (by decide)
  refine ⟨?_, ?_, ?_⟩
  · have := headed_mk (headL n blanks text) label 2 (occ_none h123)
    rw [show headL n blanks text ++ [123, 61] ++ label ++ [125, 32, 32] = headL n blanks text ++ [123, 61] ++ label ++ [125] ++ List.replicate 2 32 by simp, this, label_low hl h1 h2, if_pos rfl, signs_head n blanks text hn]
    by_cases a : n ≤ 6 <;> by_cases b : blanks ≤ 3 <;> simp [a, b]
  · rw [show headL n blanks text ++ [123, 61] ++ label ++ [125, 32, 120] = (headL n blanks text ++ [123, 61] ++ label ++ [125, 32]) ++ [120] by simp]
    exact headed_no _
  · have := headed_mk (headL n blanks text) (label ++ [bad]) 0 (occ_snoc h123 bad)
    rw [List.replicate_zero, List.append_nil] at this
    rw [show headL n blanks text ++ [123, 61] ++ label ++ [bad] ++ [125] = headL n blanks text ++ [123, 61] ++ (label ++ [bad]) ++ [125] by simp, this, label_low_snoc hl, signs_head n blanks text hn]
    by_cases a : n ≤ 6 <;> by_cases b : blanks ≤ 3 <;> by_cases c : label.length < 40 <;> cases d : (L badC).contains bad <;> simp [a, b, c]
theorem sign_cases (b : UInt8) (sg : Bool) (h : (L badC).contains b = sg) : (((b.toNat : Int) == 123) = true ∧ sg = true) ∨ (((b.toNat : Int) == 123) = false ∧ ((b.toNat : Int) == 125) = true ∧ sg = true) ∨ (((b.toNat : Int) == 123) = false ∧ ((b.toNat : Int) == 125) = false ∧ ((b.toNat : Int) == 124) = true ∧ sg = true) ∨ (((b.toNat : Int) == 123) = false ∧ ((b.toNat : Int) == 125) = false ∧ ((b.toNat : Int) == 124) = false ∧ ((b.toNat : Int) == 58) = true ∧ sg = true) ∨ (((b.toNat : Int) == 123) = false ∧ ((b.toNat : Int) == 125) = false ∧ ((b.toNat : Int) == 124) = false ∧ ((b.toNat : Int) == 58) = false ∧ ((b.toNat : Int) == 32) = true ∧ sg = true) ∨ (((b.toNat : Int) == 123) = false ∧ ((b.toNat : Int) == 125) = false ∧ ((b.toNat : Int) == 124) = false ∧ ((b.toNat : Int) == 58) = false ∧ ((b.toNat : Int) == 32) = false ∧ ((b.toNat : Int) == 9) = true ∧ sg = true) ∨ (((b.toNat : Int) == 123) = false ∧ ((b.toNat : Int) == 125) = false ∧ ((b.toNat : Int) == 124) = false ∧ ((b.toNat : Int) == 58) = false ∧ ((b.toNat : Int) == 32) = false ∧ ((b.toNat : Int) == 9) = false ∧ sg = false) := by
  by_cases h0 : b = 123
  · subst h0
    exact .inl ⟨rfl, by rw [← h]; decide⟩
  by_cases h1 : b = 125
  · subst h1
    exact .inr (.inl ⟨rfl, rfl, by rw [← h]; decide⟩)
  by_cases h2 : b = 124
  · subst h2
    exact .inr (.inr (.inl ⟨rfl, rfl, rfl, by rw [← h]; decide⟩))
  by_cases h3 : b = 58
  · subst h3
    exact .inr (.inr (.inr (.inl ⟨rfl, rfl, rfl, rfl, by rw [← h]; decide⟩)))
  by_cases h4 : b = 32
  · subst h4
    exact .inr (.inr (.inr (.inr (.inl ⟨rfl, rfl, rfl, rfl, rfl, by rw [← h]; decide⟩))))
  by_cases h5 : b = 9
  · subst h5
    exact .inr (.inr (.inr (.inr (.inr (.inl ⟨rfl, rfl, rfl, rfl, rfl, rfl, by rw [← h]; decide⟩)))))
  exact .inr (.inr (.inr (.inr (.inr (.inr (⟨byte_ne (n := 123) (by decide) h0, byte_ne (n := 125) (by decide) h1, byte_ne (n := 124) (by decide) h2, byte_ne (n := 58) (by decide) h3, byte_ne (n := 32) (by decide) h4, byte_ne (n := 9) (by decide) h5, by rw [← h, show L badC = [123, 125, 124, 58, 32, 9] from rfl]; simp [h0, h1, h2, h3, h4, h5]⟩))))))
theorem byte_of {a : Int} (h : (Lit.int .u8 a).wf = true) : ∃ b : UInt8, a = (b.toNat : Int) := by
  have h2 := bounds_u8 h
  exact ⟨a.toNat.toUInt8, by simp; omega⟩
theorem convert_byte (b : UInt8) (w : World) : (convert 26 9 (.slice (some ⟨w.heap.size, 0, none⟩) 1 1)).run Tryd.prog (w.alloc (.cells #[.int .u8 (b.toNat : Int)] 5)) = .ok (.string (S [b])) (w.alloc (.cells #[.int .u8 (b.toNat : Int)] 5)) := by
  refine run_convert_bytes_back _ _ _ 5 _ 1 [b] Tryd.underlying26 Tryd.underlying5 Tryd.underlying9 (fun j hj => ?_)
  have : j = 0 := by simpa using hj
  subst this
  exact (Blk.new w 5 #[.int .u8 (b.toNat : Int)]).cell 0

set_option maxHeartbeats 8000000 in
set_option maxRecDepth 100000 in
theorem headingLabels_walk (n m : Int) (text label : ByteArray) (oi : Int) (w : World) (hg : Glb w) (_ : (Lit.int .i64 n).wf = true) (_ : (Lit.int .i64 m).wf = true) (_ : text.size ≤ 140737488351232) (_ : label.size ≤ 140737488351232) (hoi : (Lit.int .u8 oi).wf = true) :
    Calls Tryd.prog 3 #[.int .i64 n, .int .i64 m, .string text, .string label, .int .u8 oi] w fun e w' => e = .returned (.bool true) ∧ Below w.heap.size w w' := by
  obtain ⟨b, rfl⟩ := byte_of hoi
  clear hoi
  by_cases hin : 1 ≤ n ∧ n ≤ 8 ∧ 0 ≤ m ∧ m ≤ 5 ∧ text.size ≤ 40 ∧ 1 ≤ label.size ∧ label.size ≤ 40
  · obtain ⟨i1, i2, i3, i4, i5, i6, i7⟩ := hin
    obtain ⟨n, rfl⟩ := Int.eq_ofNat_of_zero_le (a := n) (by omega)
    obtain ⟨m, rfl⟩ := Int.eq_ofNat_of_zero_le (a := m) (by omega)
    go_enter Tryd.func3, Tryd.ntmps3
    go_upto_region 3 with (go_at_call 7; refine (alive6_any _ hg).mono ?_; rintro e w1 ⟨rfl, b1⟩)
    have z1 := b1.size
    have hr : Reads (w1.alloc (.cells #[.string text, .string label] 9)) (w1.heap.size + 1) 1 (some ⟨w1.heap.size, 0, none⟩) 2 (txCells [text, label]) := reads_fresh w1 9 #[.string text, .string label] 1 2 w1.heap.size rfl rfl
    have b2 : Below w.heap.size w (w1.alloc (.cells #[.string text, .string label] 9)) := b1.alloc z1 _
    go_upto_region 4 with fail
    generalize w1.alloc (.cells #[.string text, .string label] 9) = w2 at *
    clear b1
    go_loop [66] (fun s66 => ∃ k : Nat, k ≤ 2 ∧ s66 = .int .i64 k ∧ Low2 text label k) (fun s => 2 - (intOf s).toNat)
    case atStart => exact ⟨0, by omega, rfl, by unfold Low2; exact ⟨fun _ => by omega, fun _ => by omega⟩⟩
    case round =>
      obtain ⟨k, hk, rfl, hcl⟩ := hrel
      have HCL := Lib.hid hcl
      clear hcl
      by_cases hlt : k < 2
      · obtain ⟨ad, u, he, _, hx0, hc⟩ := hr.at_ hlt
        injection he with he
        subst he
        obtain ⟨x, hx, rfl⟩ : ∃ x, [text, label][k]? = some x ∧ Value.string x = u := by
          have : ([text, label].map Value.string)[k]? = some u := hx0
          simpa only [List.getElem?_map, Option.map_eq_some_iff] using this
        have hxs : x.size ≤ 40 := by
          have := List.mem_of_getElem? hx
          simp only [List.mem_cons, List.not_mem_nil, or_false] at this
          rcases this with rfl | rfl <;> omega
        have HN : Hid (lowT (L x) = true → Low2 text label (k + 1)) := Lib.hid (low_next hlt HCL.out hx)
        clear hx hx0
        rw [add0] at hc
        go_wp2_with fail
        go_loop [13] (fun s13 => ∃ j : Nat, j ≤ x.size ∧ s13 = .int .i64 j ∧ lowT ((L x).take j) = true) (fun s => x.size - (intOf s).toNat)
        case atStart => exact ⟨0, Nat.zero_le _, rfl, rfl⟩
        case round =>
          obtain ⟨j, hj, rfl, hlo⟩ := hrel
          have HLO := Lib.hid hlo
          clear hlo
          by_cases hjl : j < x.size
          · by_cases q1 : ((x[j]'hjl).toNat : Int) < 97
            · go_wp2_with fail
              go_ret
              exact ⟨rfl, b2⟩
            · by_cases q2 : (122 : Int) < ((x[j]'hjl).toNat : Int)
              · have q1' : decide (((x[j]'hjl).toNat : Int) < 97) = false := decide_eq_false q1
                clear q1
                go_wp2_with fail
                go_ret
                exact ⟨rfl, b2⟩
              · have HT := Lib.hid (low_take x hjl q1 q2 HLO.out)
                have q1' : decide (((x[j]'hjl).toNat : Int) < 97) = false := decide_eq_false q1
                have q2' : decide ((122 : Int) < ((x[j]'hjl).toNat : Int)) = false := decide_eq_false q2
                clear q1 q2
                go_wp2_with fail
                go_round
                case rel => exact ⟨j + 1, by omega, by go_num, HT.out⟩
                case measure => simp [intOf]; omega
          · have hjx : j = x.size := by omega
            subst hjx
            have HC3 := Lib.hid (HN.out (low_all x HLO.out))
            go_wp2_with fail
            go_round
            case rel => exact ⟨k + 1, by omega, by go_num, HC3.out⟩
            case measure => simp [intOf]; omega
      · have HLB : Hid (lowT (L label) = true) := Lib.hid (HCL.out.2 (by omega))
        clear HCL hr
        go_wp2_with fail
        go_loop [14, 15] (fun s14 s15 => ∃ (k : Nat) (t : ByteArray), k ≤ m ∧ s15 = .int .i64 k ∧ s14 = .string t ∧ t = S (List.replicate k 32)) (fun _ s15 => m - (intOf s15).toNat)
        case atStart => exact ⟨0, _, Nat.zero_le _, rfl, rfl, rfl⟩
        case round =>
          obtain ⟨k, t, hk, rfl, rfl, ht⟩ := hrel
          have hts : t.size = k := by rw [ht]; simp
          have HT := Lib.hid ht
          clear ht
          by_cases hlt2 : k < m
          · have hts2 : t.size ≤ 5 := by omega
            clear hts
            go_wp2_with fail
            go_round
            case rel =>
              refine ⟨k + 1, _, by omega, by go_num, rfl, ?_⟩
              rw [HT.out]
              exact rep_snoc [] k 32
            case measure => simp [intOf]; omega
          · have hkm : k = m := by omega
            subst hkm
            have HTT : Hid (t = S (List.replicate k 32 ++ List.replicate 0 35)) := Lib.hid (by rw [HT.out]; simp)
            clear HT hts
            go_wp2_with fail
            go_loop [14, 16] (fun s14 s16 => ∃ (j : Nat) (t : ByteArray), j ≤ n ∧ s16 = .int .i64 j ∧ s14 = .string t ∧ t = S (List.replicate k 32 ++ List.replicate j 35)) (fun _ s16 => n - (intOf s16).toNat)
            case atStart => exact ⟨0, _, Nat.zero_le _, rfl, rfl, HTT.out⟩
            case round =>
              clear HTT
              obtain ⟨j, t, hj, rfl, rfl, ht⟩ := hrel
              have hts : t.size = k + j := by rw [ht]; simp
              have HT := Lib.hid ht
              clear ht
              have hts2 : t.size ≤ 13 := by omega
              clear hts
              by_cases hlt3 : j < n
              · go_wp2_with fail
                go_round
                case rel =>
                  refine ⟨j + 1, _, by omega, by go_num, rfl, ?_⟩
                  rw [HT.out]
                  exact rep_snoc _ j 35
                case measure => simp [intOf]; omega
              · have hjn : j = n := by omega
                subst hjn
                obtain ⟨s, hs⟩ : ∃ s, t ++ ((⟨#[32]⟩ : ByteArray) ++ text) = s := ⟨_, rfl⟩
                have hsl : L s = headL j k (L text) := by
                  rw [← hs, HT.out]
                  simp only [L_append, L_S]
                  unfold headL
                  simp only [List.append_assoc]
                  rfl
                have hss : s.size ≤ 60 := by
                  rw [← hs]
                  simp only [ByteArray.size_append]
                  have : (⟨#[32]⟩ : ByteArray).size = 1 := rfl
                  omega
                clear HT hlt hlt2 hlt3
                obtain ⟨y1, hy1⟩ : ∃ y, s ++ (⟨#[123, 61]⟩ : ByteArray) ++ label ++ (⟨#[125, 32, 32]⟩ : ByteArray) = y := ⟨_, rfl⟩
                obtain ⟨y2, hy2⟩ : ∃ y, s ++ (⟨#[123, 61]⟩ : ByteArray) ++ label ++ (⟨#[125, 32, 120]⟩ : ByteArray) = y := ⟨_, rfl⟩
                obtain ⟨y3, hy3⟩ : ∃ y, s ++ (⟨#[123, 61]⟩ : ByteArray) ++ label ++ S [b] ++ (⟨#[125]⟩ : ByteArray) = y := ⟨_, rfl⟩
                have g2 : (⟨#[123, 61]⟩ : ByteArray).size = 2 := rfl
                have g3 : (⟨#[125, 32, 32]⟩ : ByteArray).size = 3 := rfl
                have g4 : (⟨#[125, 32, 120]⟩ : ByteArray).size = 3 := rfl
                have g5 : (⟨#[125]⟩ : ByteArray).size = 1 := rfl
                have g6 : (S [b]).size = 1 := rfl
                have k1 : y1.size ≤ 200 := by rw [← hy1]; simp only [ByteArray.size_append]; omega
                have k2 : y2.size ≤ 200 := by rw [← hy2]; simp only [ByteArray.size_append]; omega
                have k3 : y3.size ≤ 200 := by rw [← hy3]; simp only [ByteArray.size_append]; omega
                have l1 : L y1 = headL j k (L text) ++ [123, 61] ++ L label ++ [125, 32, 32] := by rw [← hy1, ← hsl]; simp only [L_append]; rfl
                have l2 : L y2 = headL j k (L text) ++ [123, 61] ++ L label ++ [125, 32, 120] := by rw [← hy2, ← hsl]; simp only [L_append]; rfl
                have l3 : L y3 = headL j k (L text) ++ [123, 61] ++ L label ++ [b] ++ [125] := by rw [← hy3, ← hsl]; simp only [L_append]; rfl
                obtain ⟨r1, r2, r3⟩ := heads_law j k (L text) (L label) b (by omega) HLB.out (by simpa using i6) (by simpa using i7)
                have p1 : ∀ w, Calls Tryd.prog 8 #[.string y1] w fun e w' => e = .returned (headedV (headedT (L y1))) ∧ Below w.heap.size w w' := fun w => heading_any y1 w (by omega)
                have p2 : ∀ w, Calls Tryd.prog 8 #[.string y2] w fun e w' => e = .returned (headedV (headedT (L y2))) ∧ Below w.heap.size w w' := fun w => heading_any y2 w (by omega)
                have p3 : ∀ w, Calls Tryd.prog 8 #[.string y3] w fun e w' => e = .returned (headedV (headedT (L y3))) ∧ Below w.heap.size w w' := fun w => heading_any y3 w (by omega)
                rw [l1, r1, ← hsl] at p1
                rw [l2, r2] at p2
                rw [l3, r3, ← hsl] at p3
                obtain ⟨sg, hsg⟩ : ∃ sg, (L badC).contains b = sg := ⟨_, rfl⟩
                have SG := Lib.hid (sign_cases b sg hsg)
                rw [hsg] at p3
                obtain ⟨mb, hmb⟩ : ∃ mb, decide (j ≤ 6 ∧ k ≤ 3) = mb := ⟨_, rfl⟩
                have q1 : ∃ (a1 b1 : ByteArray), (∀ w, Calls Tryd.prog 8 #[.string y1] w fun e w' => e = .returned (.tuple #[.string a1, .string b1, .bool mb]) ∧ Below w.heap.size w w') ∧ (mb = true → a1 = s ∧ b1 = label) := by
                  by_cases h : j ≤ 6 ∧ k ≤ 3
                  · rw [if_pos h] at p1
                    exact ⟨s, label, by rw [← hmb, decide_eq_true h]; simpa only [headedV, S_L] using p1, fun _ => ⟨rfl, rfl⟩⟩
                  · rw [if_neg h] at p1
                    exact ⟨_, _, by rw [← hmb, decide_eq_false h]; simpa only [headedV] using p1, fun e => by rw [← hmb, decide_eq_false h] at e; cases e⟩
                have q3 : ∃ (a3 b3 : ByteArray) (o3 : Bool), (∀ w, Calls Tryd.prog 8 #[.string y3] w fun e w' => e = .returned (.tuple #[.string a3, .string b3, .bool o3]) ∧ Below w.heap.size w w') ∧ o3 = (mb && (decide (label.size < 40) && !sg)) := by
                  by_cases h : (j ≤ 6 ∧ k ≤ 3) ∧ (L label).length < 40 ∧ sg = false
                  · rw [if_pos h] at p3
                    refine ⟨_, _, true, by simpa only [headedV] using p3, ?_⟩
                    rw [← hmb, decide_eq_true h.1, h.2.2, decide_eq_true (by have := h.2.1; rw [length_L] at this; exact this)]; rfl
                  · rw [if_neg h] at p3
                    refine ⟨_, _, false, by simpa only [headedV] using p3, ?_⟩
                    rw [← hmb]
                    by_cases h1 : j ≤ 6 ∧ k ≤ 3
                    · by_cases h2 : label.size < 40
                      · cases sg
                        · exact absurd ⟨h1, by rw [length_L]; exact h2, rfl⟩ h
                        · simp
                      · simp [h2]
                    · rw [decide_eq_false h1]; rfl
                obtain ⟨a1, b1, q1, ha1⟩ := q1
                obtain ⟨a3, b3, o3, q3, ho3⟩ := q3
                simp only [headedV] at p2
                have P1 := Lib.hid q1
                have P2 := Lib.hid p2
                have P3 := Lib.hid q3
                have HA := Lib.hid ha1
                have HO := Lib.hid ho3
                have HM := Lib.hid hmb
                clear p1 p2 p3 l1 l2 l3 r1 r2 r3 hsl hsg hmb q1 q3 ha1 ho3
                go_wp2_with fail
                refine (P1.out _).mono ?_
                rintro e w3 ⟨rfl, c1⟩
                have d1 := b2.trans (c1.mono b2.size)
                clear P1 c1
                go_upto_region 23 with fail
                go_cut [20] (fun s20 wx => s20 = .bool mb ∧ wx = w3)
                case first =>
                  have hcs : 6 < j ∨ (j ≤ 6 ∧ 3 < k) ∨ (j ≤ 6 ∧ k ≤ 3) := by omega
                  rcases hcs with m1 | ⟨m1, m2⟩ | ⟨m1, m2⟩
                  · have z1 : decide ((j : Int) ≤ 6) = false := decide_eq_false (by omega)
                    go_wp2_with fail
                    go_meet
                    exact ⟨by rw [← HM.out, decide_eq_false (by omega)], rfl⟩
                  · have z1 : decide ((j : Int) ≤ 6) = true := decide_eq_true (by omega)
                    have z2 : decide ((k : Int) ≤ 3) = false := decide_eq_false (by omega)
                    go_wp2_with fail
                    go_meet
                    exact ⟨by rw [← HM.out, decide_eq_false (by omega)], rfl⟩
                  · have z1 : decide ((j : Int) ≤ 6) = true := decide_eq_true (by omega)
                    have z2 : decide ((k : Int) ≤ 3) = true := decide_eq_true (by omega)
                    go_wp2_with fail
                    go_meet
                    exact ⟨by rw [← HM.out, decide_eq_true (by omega)], rfl⟩
                case rest =>
                  obtain ⟨rfl, rfl⟩ := hcut
                  generalize wc = w3 at *
                  clear HM i1 i2 i3 i4
                  go_upto_region 24 with fail
                  go_cut [136] (fun s136 wx => s136 = .bool false ∧ wx = w3)
                  case first =>
                    cases mb
                    · go_wp2_with fail
                      go_meet
                      exact ⟨rfl, rfl⟩
                    · obtain ⟨rfl, rfl⟩ := HA.out rfl
                      go_wp2_with fail
                      go_meet
                      exact ⟨rfl, rfl⟩
                  case rest =>
                    obtain ⟨rfl, rfl⟩ := hcut
                    generalize wc = w3 at *
                    clear HA
                    go_wp2_with fail
                    refine (P2.out _).mono ?_
                    rintro e w4 ⟨rfl, c2⟩
                    have d2 := d1.trans (c2.mono d1.size)
                    have hcv := convert_byte b w4
                    clear P2 d1 c2
                    go_wp2_with fail
                    refine (P3.out _).mono ?_
                    rintro e w5 ⟨rfl, c3⟩
                    have d3 : Below w.heap.size w w5 := (d2.alloc d2.size _).trans (c3.mono (by have := d2.size; simp; omega))
                    clear P3 c3 d2 hcv hs hy1 hy2 hy3
                    go_upto_region 28 with fail
                    go_cut [27] (fun s27 wx => s27 = .bool sg ∧ wx = w5)
                    case first =>
                      rcases SG.out with ⟨h1, h⟩ | ⟨h1, h2, h⟩ | ⟨h1, h2, h3, h⟩ | ⟨h1, h2, h3, h4, h⟩ | ⟨h1, h2, h3, h4, h5, h⟩ | ⟨h1, h2, h3, h4, h5, h6, h⟩ | ⟨h1, h2, h3, h4, h5, h6, h⟩
                      all_goals
                        have HH := Lib.hid h
                        clear h
                        go_wp2_with fail
                        go_meet
                        exact ⟨by rw [HH.out], rfl⟩
                    case rest =>
                      obtain ⟨rfl, rfl⟩ := hcut
                      generalize wc = w5 at *
                      have ho := HO.out
                      clear HO SG
                      cases mb
                      · simp only [Bool.false_and] at ho
                        subst ho
                        go_wp2_with fail
                        go_ret
                        exact ⟨rfl, d3⟩
                      · by_cases h40 : label.size < 40
                        · have z3 : decide ((label.size : Int) < 40) = true := decide_eq_true (by omega)
                          rw [decide_eq_true h40] at ho
                          cases sg
                          all_goals
                            simp only [Bool.true_and, Bool.not_true, Bool.not_false] at ho
                            subst ho
                            go_wp2_with fail
                            go_ret
                            exact ⟨rfl, d3⟩
                        · have z3 : decide ((label.size : Int) < 40) = false := decide_eq_false (by omega)
                          rw [decide_eq_false h40] at ho
                          simp only [Bool.true_and, Bool.false_and] at ho
                          subst ho
                          cases sg
                          all_goals
                            go_wp2_with fail
                            go_ret
                            exact ⟨rfl, d3⟩
  · have hcs : n < 1 ∨ (1 ≤ n ∧ 8 < n) ∨ (1 ≤ n ∧ n ≤ 8 ∧ m < 0) ∨ (1 ≤ n ∧ n ≤ 8 ∧ 0 ≤ m ∧ 5 < m) ∨ (1 ≤ n ∧ n ≤ 8 ∧ 0 ≤ m ∧ m ≤ 5 ∧ 40 < text.size) ∨ (1 ≤ n ∧ n ≤ 8 ∧ 0 ≤ m ∧ m ≤ 5 ∧ text.size ≤ 40 ∧ label.size < 1) ∨ (1 ≤ n ∧ n ≤ 8 ∧ 0 ≤ m ∧ m ≤ 5 ∧ text.size ≤ 40 ∧ 1 ≤ label.size ∧ 40 < label.size) := by omega
    clear hin
    rcases hcs with h | ⟨h1, h⟩ | ⟨h1, h2, h⟩ | ⟨h1, h2, h3, h⟩ | ⟨h1, h2, h3, h4, h⟩ | ⟨h1, h2, h3, h4, h5, h⟩ | ⟨h1, h2, h3, h4, h5, h6, h⟩
    all_goals
      go_enter Tryd.func3, Tryd.ntmps3
      go_wp2_with (go_at_call 7; refine (alive6_any _ hg).mono ?_; rintro e w1 ⟨rfl, b1⟩)
    all_goals
      go_ret
      exact ⟨rfl, b1⟩
end Go.Proofs.YtgmkjjccnlnpoaaDoor
