/-
  bowdlerlaw2.LineCounts: its walk: it answers true, and turns nothing that was there.
-/
import Derived.Test.YthcaphkkhiaoeaaDoorAliveL
namespace Go.Proofs.YthcaphkkhiaoeaaDoor
open Go.RowKit

theorem count_take (s : ByteArray) {k : Nat} (h : k < s.size) : ((L s).take (k + 1)).count 10 = ((L s).take k).count 10 + (if s[k]'h = 10 then 1 else 0) := by
  have hl : k < (L s).length := by simpa using h
  rw [List.take_add_one, List.getElem?_eq_getElem hl, Option.toList_some, List.count_append, List.count_singleton, get_L]
  by_cases hb : (L s)[k] = 10 <;> simp [hb]
theorem count_take_le (l : List UInt8) (k : Nat) : (l.take k).count 10 ≤ k := by
  have h1 := List.count_le_length (a := (10 : UInt8)) (l := l.take k)
  have h2 := List.length_take_le k l
  omega
theorem byte_ne {x : UInt8} {n : Nat} (hn : n < 256) (h : ¬ x = n.toUInt8) : ((x.toNat : Int) == (n : Int)) = false := by
  refine beq_eq_false_iff_ne.2 fun e => h (UInt8.toNat_inj.1 ?_)
  have : x.toNat = n := by omega
  rw [this]; simp; omega

theorem join_mem {ini : List (List UInt8)} {x : List UInt8} (h : x ∈ ini) : x.length ≤ (joinT ini).length := by
  obtain ⟨a, b, rfl⟩ := List.append_of_mem h
  rw [joinT_app, List.length_append]
  have : (joinT (x :: b)).length = x.length + 1 + (joinT b).length := by simp [joinT, Nat.add_assoc]; omega
  omega
theorem lines_len (l : List UInt8) : ∀ x ∈ linesT l, x.length ≤ l.length := by
  intro x hx
  obtain ⟨ini, last, h1, _, _, h4⟩ := linesT_cases l
  have hl := congrArg List.length h1
  rw [List.length_append] at hl
  rcases h4 with ⟨_, h5⟩ | ⟨_, h5⟩
  · rw [h5] at hx
    have := join_mem hx; omega
  · rw [h5] at hx
    rcases List.mem_append.1 hx with h | h
    · have := join_mem h; omega
    · simp at h; subst h; omega
theorem linesB_at {s x : ByteArray} {k : Nat} (h : (linesB s)[k]? = some x) : x.size ≤ s.size ∧ ∀ j (hj : j < x.size), ¬ x[j]'hj = 10 := by
  have hm := List.mem_of_getElem? h
  obtain ⟨y, hy, rfl⟩ := List.mem_map.1 hm
  refine ⟨by have := lines_len _ y hy; simpa using this, fun j hj e => linesT_no _ y hy ?_⟩
  rw [get_L] at e
  rw [← e]
  simp

set_option maxHeartbeats 2000000 in
set_option maxRecDepth 100000 in
theorem lineCounts_walk (s : ByteArray) (w : World) (hg : Glb w) (_ : s.size ≤ 140737488351232) :
    Calls Tryd.prog 5 #[.string s] w fun e w' => e = .returned (.bool true) ∧ Below w.heap.size w w' := by
  by_cases hin : s.size ≤ 400
  · go_enter Tryd.func5, Tryd.ntmps5
    go_wp2_with fail
    refine (alive_any _ hg).mono ?_
    rintro e w1 ⟨rfl, b1⟩
    have hg1 := hg.below b1
    have z1 := b1.size
    go_wp2_with fail
    go_loop [3, 4] (fun s3 s4 => ∃ k : Nat, k ≤ s.size ∧ s4 = .int .i64 k ∧ s3 = .int .i64 (((L s).take k).count 10 : Nat)) (fun _ s4 => s.size - (intOf s4).toNat)
    case atStart => exact ⟨0, Nat.zero_le _, rfl, rfl⟩
    case round =>
      obtain ⟨k, hk, rfl, rfl⟩ := hrel
      have hck := count_take_le (L s) k
      by_cases hlt : k < s.size
      · have ht := count_take s hlt
        generalize ((L s).take k).count 10 = c at *
        by_cases hb : s[k]'hlt = 10
        · rw [if_pos hb] at ht
          have HT := Lib.hid ht
          clear ht
          go_wp2_with fail
          go_round
          case rel => exact ⟨k + 1, by omega, by go_num, by rw [HT.out]; go_num⟩
          case measure => simp [intOf]; omega
        · rw [if_neg hb] at ht
          have HT := Lib.hid ht
          have q := byte_ne (n := 10) (by decide) hb
          clear ht hb
          go_wp2_with fail
          go_round
          case rel => exact ⟨k + 1, by omega, by go_num, by rw [HT.out]; rfl⟩
          case measure => simp [intOf]; omega
      · have hkl : k = s.size := by omega
        subst hkl
        have hl := lines_count (L s)
        rw [List.take_of_length_le (by simp)] at hck ⊢
        have hcs : (s = ⟨#[]⟩ ∧ (linesT (L s)).length = (L s).count 10) ∨ (0 < s.size ∧ ∃ h : s.size - 1 < s.size, s[s.size - 1]'h = 10 ∧ (linesT (L s)).length = (L s).count 10) ∨
            (0 < s.size ∧ ∃ h : s.size - 1 < s.size, ¬ s[s.size - 1]'h = 10 ∧ (linesT (L s)).length = (L s).count 10 + 1) := by
          by_cases h0 : s.size = 0
          · have hn : L s = [] := List.eq_nil_of_length_eq_zero (by simpa using h0)
            exact .inl ⟨bytes_none h0, by rw [hl, if_pos (.inl hn)]; rfl⟩
          · have h1 : s.size - 1 < s.size := by omega
            have hne : ¬ L s = [] := fun e => h0 (by have := congrArg List.length e; simpa using this)
            have hgl : (L s).getLast? = some (s[s.size - 1]'h1) := by
              rw [List.getLast?_eq_getElem?, List.getElem?_eq_getElem (by simp; omega), get_L]; simp
            by_cases hb : s[s.size - 1]'h1 = 10
            · exact .inr (.inl ⟨by omega, h1, hb, by rw [hl, if_pos (.inr (by rw [hgl, hb]))]; rfl⟩)
            · refine .inr (.inr ⟨by omega, h1, hb, ?_⟩)
              rw [hl, if_neg]
              rintro (e | e)
              · exact hne e
              · rw [hgl] at e; injection e with e; exact hb e
        clear hl
        have hm0 : (txCells (linesB s)).length = (linesT (L s)).length := by simp [txCells, linesB]
        generalize (linesT (L s)).length = m at *
        have HM := Lib.hid hm0
        clear hm0
        generalize (L s).count 10 = c at *
        rcases hcs with ⟨rfl, hn⟩ | ⟨h0, h1, hb, hn⟩ | ⟨h0, h1, hb, hn⟩
        case' inr.inl => obtain ⟨t1, t2, t3⟩ := bytes_some (a := s) (by omega)
        case' inr.inr =>
          obtain ⟨t1, t2, t3⟩ := bytes_some (a := s) (by omega)
          have q := byte_ne (n := 10) (by decide) hb
          clear hb
        all_goals
          have HN := Lib.hid hn
          clear hn
          go_wp2_with fail
          refine (split_any _ _ hg1 (by omega)).mono ?_
          rintro e w2 ⟨A, n, cp, rfl, hown, b2⟩
          have bb2 := b1.trans (b2.mono z1)
          have hnl := hown.len
          have hr := hown.reads
          have HNL : Hid (n = m) := Lib.hid (by have := HM.out; omega)
          have hcap := hown.cap
          have hn401 : n ≤ 1000 := by have := HNL.out; have := HN.out; omega
          clear hown b2 hnl
          go_wp2_with fail
          go_loop [45] (fun i => ∃ k : Nat, k ≤ n ∧ i = .int .i64 k) (fun i => n - (intOf i).toNat)
          case atStart => exact ⟨0, Nat.zero_le _, rfl⟩
          case round =>
            obtain ⟨k, hk, rfl⟩ := hrel
            by_cases hlt : k < n
            · obtain ⟨ad, u, rfl, _, hx0, hc⟩ := hr.at_ hlt
              obtain ⟨x, hx, rfl⟩ : ∃ x, (linesB _)[k]? = some x ∧ Value.string x = u := by simpa [txCells] using hx0
              obtain ⟨hxs, hxn⟩ := linesB_at hx
              have HX := Lib.hid hxn
              clear hx hx0 hxn
              go_wp2_with fail
              go_loop [8] (fun i => ∃ j : Nat, j ≤ x.size ∧ i = .int .i64 j) (fun i => x.size - (intOf i).toNat)
              case atStart => exact ⟨0, Nat.zero_le _, rfl⟩
              case round =>
                obtain ⟨j, hj, rfl⟩ := hrel
                by_cases hjl : j < x.size
                · have q10 := byte_ne (n := 10) (by decide) (HX.out j hjl)
                  go_wp2_with fail
                  go_round
                  case rel => exact ⟨j + 1, by omega, by go_num⟩
                  case measure => simp [intOf]; omega
                · go_wp2_with fail
                  go_round
                  case rel => exact ⟨k + 1, by omega, by go_num⟩
                  case measure => simp [intOf]; omega
            · go_wp2_with fail
              go_ret
              have h1 := HN.out
              have h2 := HNL.out
              refine ⟨congrArg (fun b => Ending.returned (Value.bool b)) (beq_iff_eq.2 (by omega)), bb2⟩
  · go_enter Tryd.func5, Tryd.ntmps5
    go_wp2_with fail
    refine (alive_any _ hg).mono ?_
    rintro e w1 ⟨rfl, b1⟩
    go_wp2_with fail
    go_ret
    exact ⟨rfl, b1⟩
end Go.Proofs.YthcaphkkhiaoeaaDoor
