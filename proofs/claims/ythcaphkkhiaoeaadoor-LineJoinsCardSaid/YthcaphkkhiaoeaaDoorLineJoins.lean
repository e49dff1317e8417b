/-
  bowdlerlaw2.LineJoins: its walk: it answers true, and turns nothing that was there.
-/
import Derived.Test.YthcaphkkhiaoeaaDoorAliveL
import Derived.Test.YthcaphkkhiaoeaaDoorOpenTexts
import Derived.Lib.QuietBelow
namespace Go.Proofs.YthcaphkkhiaoeaaDoor
open Go.RowKit Go.Sort

theorem tmod_bd (j : Int) (k : Nat) : -(k : Int) ≤ j.tmod (k + 1) ∧ j.tmod (k + 1) ≤ k := by
  have h1 := Int.tmod_lt_of_pos j (b := (k : Int) + 1) (by omega)
  have h2 := Int.tmod_lt_of_pos (-j) (b := (k : Int) + 1) (by omega)
  rw [Int.neg_tmod] at h2
  omega
theorem tmod_in (j : Int) (k : Nat) : ∃ m : Nat, m ≤ k ∧ (j.tmod (k + 1) + k + 1).tmod (k + 1) = (m : Int) := by
  have h := tmod_bd j k
  have h1 := Int.tmod_lt_of_pos (j.tmod (k + 1) + k + 1) (b := (k : Int) + 1) (by omega)
  have h2 := Int.tmod_nonneg (a := j.tmod (k + 1) + k + 1) ((k : Int) + 1) (by omega)
  exact ⟨((j.tmod (k + 1) + k + 1).tmod (k + 1)).toNat, by omega, by omega⟩

set_option maxHeartbeats 2000000 in
set_option maxRecDepth 100000 in
theorem lineJoins_walk (A : Option Addr) (n cap : Nat) (l : List ByteArray) (j : Int) (w : World) (hg : Glb w) (hl : IsTexts w A n cap l) (_ : (Lit.int .i64 j).wf = true) :
    Calls Tryd.prog 7 #[.slice A n cap, .int .i64 j] w fun e w' => e = .returned (.bool true) ∧ Below w.heap.size w w' := by
  obtain ⟨hr, hnc, hcm, hxs⟩ := hl
  unfold maxLen at hcm
  have hlen : l.length = n := by have := hr.1; simpa using this
  by_cases hin : n ≤ 40
  · have HLEN := Lib.hid hlen
    clear hlen
    go_enter Tryd.func7, Tryd.ntmps7
    go_wp2_with fail
    refine (alive_any _ hg).mono ?_
    rintro e w1 ⟨rfl, b1⟩
    have z1 := b1.size
    have hr1 := hr.below b1
    clear hr
    go_wp2_with fail
    go_loop [5, 19] (fun s5 s19 => ∃ k : Nat, k ≤ n ∧ s19 = .int .i64 k ∧ s5 = .int .i64 ((joinT ((l.take k).map L)).length : Nat) ∧ (joinT ((l.take k).map L)).length ≤ 61 * k) (fun _ s19 => n - (intOf s19).toNat)
    case atStart => exact ⟨0, Nat.zero_le _, rfl, rfl, by simp [joinT]⟩
    case round =>
      obtain ⟨k, hk, rfl, rfl, hb⟩ := hrel
      by_cases hlt : k < n
      · obtain ⟨ad, u, rfl, _, hx0, hc⟩ := hr1.at_ hlt
        obtain ⟨x, hx, rfl⟩ : ∃ x, l[k]? = some x ∧ Value.string x = u := by simpa using hx0
        have hxm := hxs x (List.mem_of_getElem? hx)
        unfold maxLen at hxm
        have HT := congrArg List.length (joinT_take l hx)
        rw [List.length_append, List.length_append, length_L, List.length_singleton] at HT
        generalize (joinT ((l.take k).map L)).length = c at *
        have HT := Lib.hid HT
        clear hx hx0 hxs
        by_cases h60 : x.size ≤ 60
        · go_wp2_with fail
          go_round
          case rel => exact ⟨k + 1, by omega, by go_num, by rw [HT.out]; go_num, by rw [HT.out]; omega⟩
          case measure => simp [intOf]; omega
        · go_wp2_with fail
          go_ret
          exact ⟨rfl, b1⟩
      · have hkn : k = n := by omega
        subst hkn
        rw [List.take_of_length_le (by rw [HLEN.out]; omega)] at hb ⊢
        obtain ⟨m, hm, hmod⟩ := tmod_in j k
        go_upto_region 11 with fail
        go_cut [1] (fun s1 wx => s1 = .int .i64 (m : Int) ∧ wx = w1)
        case first =>
          obtain ⟨d1, d2⟩ := tmod_bd j k
          go_wp2_with fail
          go_meet
          exact ⟨rfl, rfl⟩
        case rest =>
          obtain ⟨rfl, rfl⟩ := hcut
          clear hmod
          generalize wc = w1 at *
          have hjl : (joinT (l.map L)).length ≤ 140737488355328 := by omega
          have hj1 : (joinT ((l.take m).map L)).length ≤ 140737488355328 := by have := joinT_take_le l m; omega
          have hap : joinT ((l.take m).map L) ++ joinT ((l.drop m).map L) = joinT (l.map L) := by rw [← joinT_app, ← List.map_append, List.take_append_drop]
          have hj2 : (joinT ((l.drop m).map L)).length ≤ 140737488355328 := by have := congrArg List.length hap; rw [List.length_append] at this; omega
          have hS : S (joinT ((l.take m).map L)) ++ S (joinT ((l.drop m).map L)) = S (joinT (l.map L)) := by rw [← hap, S_append, L_S]
          have HS := Lib.hid hS
          have hsz : (joinT (l.map L)).length = (S (joinT (l.map L))).size := by simp
          rw [hsz] at hb ⊢
          have HSZ := Lib.hid hsz
          obtain ⟨J, hJ⟩ : ∃ J, S (joinT (l.map L)) = J := ⟨_, rfl⟩
          rw [hJ] at hb HS ⊢
          have HJ := Lib.hid hJ
          clear hsz hJ
          have hra : Reads w1 w.heap.size 1 A m (txCells (l.take m)) := by have := hr1.pre hm; rwa [← List.map_take] at this
          have hrb : Reads w1 w.heap.size 1 (if cap = m then A else A.map (·.add m)) (k - m) (txCells (l.drop m)) := by have := hr1.suf hm hnc; rwa [← List.map_drop] at this
          clear hap hS
          go_wp2_with fail
          refine (join_any A k cap w.heap.size l _ hr1 z1 hjl).mono ?_
          rintro e w2 ⟨rfl, b2⟩
          have bb2 := b1.trans (b2.mono z1)
          have z2 := bb2.size
          have hra2 := hra.below (b2.mono z1)
          have hrb2 := hrb.below (b2.mono z1)
          rw [HJ.out]
          clear hra hrb hr1
          have r1 : (m : Int) ≤ (cap : Int) := by omega
          have r2 : (m : Int) ≤ (k : Int) := by omega
          have r3 : (0 : Int) ≤ (m : Int) := by omega
          have r5 : ¬ 9223372036854775807 < (S (joinT ((l.take m).map L))).size + (S (joinT ((l.drop m).map L))).size := by rw [size_S, size_S]; have := congrArg ByteArray.size HS.out; rw [ByteArray.size_append, size_S, size_S] at this; omega
          have hS := HS.out
          have cA : ∀ d os, Calls Tryd.prog 13 #[.slice A m cap] (grow (redrawn w2 d) os) fun e w'' => e = .returned (.string (S (joinT ((l.take m).map L)))) ∧ ∃ p : Regrown, w'' = grow (redrawn w2 p.d) p.os := fun d os =>
            Calls.regrown_of (join_any A m cap w.heap.size (l.take m) _ (hra2.below ((below_regrown w2 d os).mono z2)) (Nat.le_trans z2 (below_regrown w2 d os).size) hj1)
          have cB : ∀ d os, Calls Tryd.prog 13 #[.slice (if cap = m then A else A.map (·.add m)) (k - m) (cap - m)] (grow (redrawn w2 d) os) fun e w'' => e = .returned (.string (S (joinT ((l.drop m).map L)))) ∧ ∃ p : Regrown, w'' = grow (redrawn w2 p.d) p.os := fun d os =>
            Calls.regrown_of (join_any (if cap = m then A else A.map (·.add m)) (k - m) (cap - m) w.heap.size (l.drop m) _ (hrb2.below ((below_regrown w2 d os).mono z2)) (Nat.le_trans z2 (below_regrown w2 d os).size) hj2)
          generalize S (joinT ((l.take m).map L)) = P1 at *
          generalize S (joinT ((l.drop m).map L)) = P2 at *
          clear hra2 hrb2
          go_wp2_with fail
          refine wp_region_quiet_below (by kernel_rfl) (by kernel_rfl) ?_
          repeat (quiet_step (first | (go_at_call_of 13 (Value.slice A m cap); exact cA _ _) | (go_at_call_of 13 (cap - m); exact cB _ _)))
          refine wpQuiet_nil ?_
          intro _ hw'
          obtain ⟨⟨dq, osq⟩, hw''⟩ := hw'
          have bbq : Below w.heap.size w (grow (redrawn w2 dq) osq) := bb2.trans ((below_regrown w2 dq osq).mono z2)
          subst hw''
          generalize grow (redrawn w2 dq) osq = w3 at *
          go_wp2_with fail
          all_goals go_ret
          all_goals exact ⟨rfl, bbq⟩
  · go_enter Tryd.func7, Tryd.ntmps7
    go_wp2_with fail
    refine (alive_any _ hg).mono ?_
    rintro e w1 ⟨rfl, b1⟩
    go_wp2_with fail
    go_ret
    exact ⟨rfl, b1⟩
end Go.Proofs.YthcaphkkhiaoeaaDoor
