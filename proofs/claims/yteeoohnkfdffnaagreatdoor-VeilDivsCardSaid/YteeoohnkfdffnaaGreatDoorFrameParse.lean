/-
  frame.Parse: its contract.
-/
import Derived.Test.YteeoohnkfdffnaaGreatDoorGC
namespace Go.Proofs.YteeoohnkfdffnaaGreatDoor
open Go.RowKit

/-- how far a frame is read -/
structure FrS where
  out : List PartT
  ins : List Nat
  run : Bool
def shutAt (out : List PartT) (i : Nat) : List PartT := match out[i]? with
  | some p => out.set i { p with opn := false }
  | none => out
def addLast (out : List PartT) (s : ByteArray) : List PartT := match out.getLast? with
  | some p => out.dropLast ++ [{ p with lines := p.lines ++ [s] }]
  | none => out
def frStep (st : FrS) (s : ByteArray) : FrS :=
  if (opensT (L s)).2 then ⟨st.out ++ [⟨(st.ins.length : Int), true, S (opensT (L s)).1, true, []⟩], st.ins ++ [st.out.length], false⟩
  else if shutsT (L s) && decide (0 < st.ins.length) then ⟨shutAt st.out (st.ins.getLast?.getD 0), st.ins.dropLast, false⟩
  else if st.run then ⟨addLast st.out s, st.ins, true⟩
  else ⟨st.out ++ [⟨(st.ins.length : Int), false, ⟨#[]⟩, false, [s]⟩], st.ins, true⟩
def frT (ls : List ByteArray) : FrS := ls.foldl frStep ⟨[], [], false⟩
/-- what holds on the way -/
def FrOk (st : FrS) (k : Nat) : Prop := (∀ i ∈ st.ins, i < st.out.length) ∧ (st.run = true → st.out ≠ []) ∧ st.out.length ≤ k ∧ st.ins.length ≤ k ∧ ∀ p ∈ st.out, p.lines.length ≤ k

theorem frT_take (ls : List ByteArray) {k : Nat} {s : ByteArray} (h : ls[k]? = some s) : frT (ls.take (k + 1)) = frStep (frT (ls.take k)) s := by
  unfold frT
  rw [List.take_add_one, h, Option.toList_some, List.foldl_append]; rfl

theorem shutAt_len (out : List PartT) (i : Nat) : (shutAt out i).length = out.length := by
  unfold shutAt; split <;> simp
theorem shutAt_mem {out : List PartT} {i k : Nat} (h : ∀ p ∈ out, p.lines.length ≤ k) : ∀ p ∈ shutAt out i, p.lines.length ≤ k := by
  intro p hp
  unfold shutAt at hp
  split at hp
  · rename_i q hq
    rcases List.mem_or_eq_of_mem_set hp with hp | rfl
    · exact h p hp
    · exact h q (List.mem_of_getElem? hq)
  · exact h p hp

theorem FrOk.step {st : FrS} {k : Nat} (h : FrOk st k) (s : ByteArray) : FrOk (frStep st s) (k + 1) := by
  obtain ⟨h1, h2, h3, h4, h5⟩ := h
  unfold frStep
  split
  · refine ⟨fun i hi => ?_, by simp, by simp; omega, by simp; omega, fun p hp => ?_⟩
    · rcases List.mem_append.1 hi with hi | hi
      · have := h1 i hi; simp; omega
      · rw [List.mem_singleton.1 hi]; simp
    · rcases List.mem_append.1 hp with hp | hp
      · have := h5 p hp; omega
      · rw [List.mem_singleton.1 hp]; simp
  · split
    · refine ⟨fun i hi => ?_, by simp, by rw [shutAt_len]; omega, by simp; omega, fun p hp => ?_⟩
      · rw [shutAt_len]; exact h1 i (List.dropLast_subset _ hi)
      · exact Nat.le_trans (shutAt_mem h5 p hp) (by omega)
    · split
      · rename_i hrun
        have hne := h2 hrun
        obtain ⟨ini, last, he⟩ : ∃ ini last, st.out = ini ++ [last] := ⟨st.out.dropLast, st.out.getLast hne, (List.dropLast_concat_getLast hne).symm⟩
        have ha : addLast st.out s = ini ++ [{ last with lines := last.lines ++ [s] }] := by unfold addLast; rw [he]; simp
        rw [ha]
        have hl : st.out.length = ini.length + 1 := by rw [he]; simp
        refine ⟨fun i hi => ?_, by simp, by simp; omega, by simp; omega, fun p hp => ?_⟩
        · have := h1 i hi; simp; omega
        · rcases List.mem_append.1 hp with hp | hp
          · have := h5 p (by rw [he]; simp [hp]); omega
          · rw [List.mem_singleton.1 hp]
            have := h5 last (by rw [he]; simp)
            simp; omega
      · refine ⟨fun i hi => ?_, by simp, by simp; omega, by simp; omega, fun p hp => ?_⟩
        · have := h1 i hi; simp; omega
        · rcases List.mem_append.1 hp with hp | hp
          · have := h5 p hp; omega
          · rw [List.mem_singleton.1 hp]; simp
theorem frT_ok (ls : List ByteArray) : ∀ k, k ≤ ls.length → FrOk (frT (ls.take k)) k
  | 0, _ => ⟨by simp [frT], by simp [frT], by simp [frT], by simp [frT], by simp [frT]⟩
  | k + 1, h => by
    rw [frT_take ls (List.getElem?_eq_getElem (by omega : k < ls.length))]
    exact (frT_ok ls k (by omega)).step _

def inCells (l : List Nat) : List Value := l.map fun i : Nat => Value.int .i64 (i : Int)

set_option maxHeartbeats 4000000 in
set_option maxRecDepth 100000 in
theorem frParse_any (A : Option Addr) (n cap K : Nat) (ls : List ByteArray) (w : World) (hr : Reads w K 1 A n (txCells ls)) (hK : K ≤ w.heap.size) (hn : n ≤ 1048576) (hsz : ∀ x ∈ ls, x.size ≤ 9223372036854775807) :
    Calls Tryz.prog 39 #[.slice A n cap] w fun e w' => ∃ A' m c' ps, e = .returned (.slice A' m c') ∧ Parts w' w.heap.size A' m c' ps ∧ ps.map (·.t) = (frT ls).out ∧ Below w.heap.size w w' := by
  have hlen : ls.length = n := by have := hr.1; simpa using this
  have HL := Lib.hid hlen
  have HSZ := Lib.hid hsz
  clear hlen hsz
  go_enter Tryz.func39, Tryz.ntmps39
  go_wp2_with fail
  go_loopw [3, 4, 5, 12] (fun s3 s4 s5 s12 wr => ∃ (k : Nat) (A1 A2 : Option Addr) (n1 c1 n2 c2 : Nat) (ps : List PartR), k ≤ n ∧ s12 = .int .i64 k ∧ s3 = .slice A1 n1 c1 ∧ s4 = .slice A2 n2 c2 ∧ s5 = .bool (frT (ls.take k)).run ∧
    Parts wr w.heap.size A1 n1 c1 ps ∧ ps.map (·.t) = (frT (ls.take k)).out ∧ Own wr w.heap.size 3 1 A2 n2 c2 (inCells (frT (ls.take k)).ins) ∧ Below w.heap.size w wr) (fun _ _ _ s12 _ => n - (intOf s12).toNat)
  case atStart => exact ⟨0, none, none, 0, 0, 0, 0, [], Nat.zero_le _, rfl, rfl, rfl, rfl, Parts.nil _ _, rfl, Own.nil _ _ _ _, Below.refl _ _⟩
  case round =>
    obtain ⟨k, A1, A2, n1, c1, n2, c2, ps, hk, rfl, rfl, rfl, rfl, hP, hout, hin, hb⟩ := hrel
    have hbs := hb.size
    have hn1 := hP.len
    have hok := frT_ok ls k (by rw [HL.out]; exact hk)
    by_cases hlt : k < n
    · obtain ⟨ad, u, rfl, _, hx0, hc⟩ := (hr.keep (w' := wr) fun p hp => hb.cell (by omega)).at_ hlt
      obtain ⟨x, hx, rfl⟩ : ∃ x, ls[k]? = some x ∧ Value.string x = u := by simpa using hx0
      have hxs := HSZ.out x (List.mem_of_getElem? hx)
      have hst := frT_take ls hx
      clear hx hx0
      generalize frT (ls.take k) = st at *
      have HST := Lib.hid hst
      clear hst
      obtain ⟨out, ins, run⟩ := st
      obtain ⟨o1, o2, o3, o4, o5⟩ := hok
      simp only at o1 o2 o3 o4 o5 hout hin
      have hn2 : ins.length = n2 := by have := hin.len; simp [inCells] at this; omega
      have hon : out.length = n1 := by rw [← hout, List.length_map, hn1]
      have HO := Lib.hid (fun w => opens_any x w hxs)
      have HS := Lib.hid (fun w => shuts_any x w hxs)
      obtain ⟨⟨lbl, is⟩, hop⟩ : ∃ y, opensT (L x) = y := ⟨_, rfl⟩
      rw [hop] at HO
      cases is
      · by_cases hsh : shutsT (L x) = true ∧ 0 < ins.length
        · obtain ⟨hsh, hpos⟩ := hsh
          obtain ⟨ins', i, rfl⟩ : ∃ ini last, ins = ini ++ [last] := ⟨ins.dropLast, ins.getLast (List.ne_nil_of_length_pos hpos), (List.dropLast_concat_getLast _).symm⟩
          have hi : i < out.length := o1 i (by simp)
          obtain ⟨m, hm⟩ : ∃ m, ins'.length = m := ⟨_, rfl⟩
          have hnm : n2 = m + 1 := by rw [← hn2, ← hm]; simp
          subst hnm
          obtain ⟨p, hp⟩ : ∃ p, ps[i]? = some p := ⟨_, List.getElem?_eq_getElem (by omega)⟩
          obtain ⟨g1, rfl, hg1, _⟩ := hP.1.some_ (by omega)
          obtain ⟨g2, rfl, hg2, _⟩ := hin.some_ (by omega)
          have HST2 : Hid (frT (ls.take (k + 1)) = ⟨shutAt out i, ins', false⟩) := Lib.hid (by rw [HST.out]; unfold frStep; rw [hop, hsh]; simp)
          have hpt : out[i]? = some p.t := by rw [← hout, List.getElem?_map, hp]; rfl
          have HSA : Hid (shutAt out i = (ps.set i { p with t := { p.t with opn := false } }).map (·.t)) := Lib.hid (by unfold shutAt; rw [hpt, ← hout, List.map_set])
          have hii : i < n1 := by omega
          rw [hsh] at HS
          have ci : ∀ W, Own W w.heap.size 3 1 (some ⟨g2, 0, none⟩) (m + 1) c2 (inCells (ins' ++ [i])) → W.cell? ⟨g2, m, none⟩ = some (.int .i64 (i : Int)) := fun W h => h.cell (by simp [inCells, hm])
          have HCI := Lib.hid ci
          have q1 : (0 : Int) ≤ (i : Int) := by omega
          have q2 : (i : Int) < (n1 : Int) := by omega
          have q3 : ((i : Int)).toNat = i := by omega
          have hmk : m + 1 ≤ k := by omega
          have hcap : m + 1 ≤ c2 := hin.cap
          have hmc : m ≤ c2 := by omega
          have hmc2 : (m : Int) ≤ (c2 : Int) := by omega
          have hc20 : ¬ c2 = 0 := by omega
          have hnk : n1 ≤ k := by omega
          have HN2 := Lib.hid hn2
          have HM := Lib.hid hm
          have HP5 := Lib.hid hp
          clear hp HST hop hsh ci hm hon hn2 o1 o2 o3 o4 o5 hi hpt
          go_wp2_with (first
            | (go_at_call 71; refine (HO.out _).mono ?_; rintro e w1 ⟨rfl, b1⟩
               have hP1 := hP.below b1 (Nat.le_refl _)
               have hin1 := hin.below b1 (Nat.le_refl _)
               have hb1 := hb.trans (b1.mono hbs)
               have hz1 := hb1.size)
            | (go_at_call 72; refine (HS.out _).mono ?_; rintro e w2 ⟨rfl, b2⟩
               have hP2 := hP1.below b2 (Nat.le_refl _)
               have hin2 := hin1.below b2 (Nat.le_refl _)
               have hb2 := hb1.trans (b2.mono hz1)
               have hz2 := hb2.size
               have c2i := HCI.out _ hin2
               obtain ⟨_, _, _, p3, _⟩ := hP2.cells_at HP5.out
               have f3 := hP2.1.frozen (i * 5 + 3)))
          have hst := hP2.shut HP5.out false
          have hs4 := (hin2.only (only_setCell w2 g1 (i * 5 + 3) (.bool false)) (hin2.sep_ne hP2.1 (by decide))).take (m := m) (by omega)
          go_roundw
          case rel =>
            refine ⟨k + 1, some ⟨g1, 0, none⟩, some ⟨g2, 0, none⟩, n1, c1, m, c2, _, by omega, by go_num, rfl, by rfl, by rw [HST2.out], hst, ?_, ?_, hb2.setCell (p := ⟨g1, i * 5 + 3, none⟩) hg1 _⟩
            · rw [HST2.out]; exact HSA.out.symm
            · rw [HST2.out]
              have e5 : (inCells (ins' ++ [i])).take (m * 1) = inCells ins' := by simp [inCells, ← HM.out]
              rwa [e5] at hs4
          case measure => simp [intOf]; omega
        · have hcc : shutsT (L x) = false ∨ (shutsT (L x) = true ∧ n2 = 0) := by
            cases h : shutsT (L x)
            · exact .inl rfl
            · exact .inr ⟨rfl, by have : ¬ 0 < ins.length := fun hp => hsh ⟨h, hp⟩; omega⟩
          have HSH : Hid ((shutsT (L x) && decide (0 < ins.length)) = false) := Lib.hid (by
            rcases hcc with h | ⟨h, h0⟩
            · rw [h]; rfl
            · rw [decide_eq_false (by omega), Bool.and_false])
          clear hsh
          cases run
          · have HST2 : Hid (frT (ls.take (k + 1)) = ⟨out ++ [⟨(ins.length : Int), false, ⟨#[]⟩, false, [x]⟩], ins, true⟩) := Lib.hid (by rw [HST.out]; unfold frStep; rw [hop, HSH.out]; rfl)
            have HON := Lib.hid hon
            have HN2 := Lib.hid hn2
            have hnk : n1 ≤ k := by omega
            have hnk2 : n2 ≤ k := by omega
            clear HST hop o1 o2 o3 o4 o5 hon hn2
            rcases hcc with hsh | ⟨hsh, h0⟩
            case' inr => subst h0
            all_goals
              go_wp2_with (first
                | (go_at_call 71; refine (HO.out _).mono ?_; rintro e w1 ⟨rfl, b1⟩
                   have hP1 := hP.below b1 (Nat.le_refl _)
                   have hin1 := hin.below b1 (Nat.le_refl _)
                   have hb1 := hb.trans (b1.mono hbs)
                   have hz1 := hb1.size)
                | (go_at_call 72; refine (HS.out _).mono ?_; rintro e w2 ⟨rfl, b2⟩; rw [hsh]
                   have hP2 := hP1.below b2 (Nat.le_refl _)
                   have hin2 := hin1.below b2 (Nat.le_refl _)
                   have hb2 := hb1.trans (b2.mono hz1)
                   have hz2 := hb2.size)
                | (at_builtin; refine wpList_app1 Tryz.elParts rfl (.tmp 21) (.tmp 27) rfl rfl (by exact (hP2.1.alloc _).alloc _) rfl (Blk.new' _ _ _ _ (by simp)) rfl (by simp [Value.oneCell']) (by simp only [maxLen]; omega) (by omega) (by simp; omega) ?_
                   intro A3 c3 w3 hr3 ho3 hm3))
              have hrow : Own (w2.alloc (.cells #[.string x] 9)) w.heap.size 9 1 (some ⟨w2.heap.size, 0, none⟩) 1 1 (txCells [x]) :=
                World.ownsRow_lit (base := w.heap.size) (e := 9) (size := 1) w2 #[.string x] 1 hz2 (by unfold maxLen; omega) (by simp)
              have hin3 := ((hin2.alloc (.cells #[.string x] 9)).alloc (.cells #[.int .i64 _, .bool false, .string ⟨#[]⟩, .bool false, .slice (some ⟨w2.heap.size, 0, none⟩) 1 1] 73)).only ho3 (hin2.sep_ne hP2.1 (by decide))
              have hP3 := Parts.push (q := ⟨⟨_, false, ⟨#[]⟩, false, [x]⟩, some ⟨w2.heap.size, 0, none⟩, 1⟩) ((hP2.alloc (.cells #[.string x] 9)).alloc _) (hrow.alloc _) (fun p hp a b ha hb => by
                injection hb with hb
                have := ((hP2.2.1 p hp).lt ha).2
                rw [← hb]; show a.block ≠ w2.heap.size; omega) ho3 hr3
              go_roundw
              case rel =>
                refine ⟨k + 1, A3, A2, n1 + 1, c3, _, c2, _, by omega, by go_num, rfl, rfl, by rw [HST2.out], hP3, ?_, ?_, hb2.trans (ho3.of_alloc.of_alloc.below (fun a ha => (hP2.1.lt ha).1) hz2)⟩
                · rw [HST2.out, List.map_append, hout, HN2.out]; rfl
                · rw [HST2.out]; exact hin3
              case measure => simp [intOf]; omega
          · obtain ⟨ini, p, rfl⟩ : ∃ ini last, ps = ini ++ [last] := by
              have hne : ps ≠ [] := fun e => o2 rfl (by rw [← hout, e]; rfl)
              exact ⟨ps.dropLast, ps.getLast hne, (List.dropLast_concat_getLast hne).symm⟩
            have HST2 : Hid (frT (ls.take (k + 1)) = ⟨addLast out x, ins, true⟩) := Lib.hid (by rw [HST.out]; unfold frStep; rw [hop, HSH.out]; rfl)
            have HAL : Hid (addLast out x = ini.map (·.t) ++ [{ p.t with lines := p.t.lines ++ [x] }]) := Lib.hid (by unfold addLast; rw [← hout]; simp)
            have hpl : p.t.lines.length ≤ k := o5 p.t (by rw [← hout]; simp)
            obtain ⟨j, hj⟩ : ∃ j, ini.length = j := ⟨_, rfl⟩
            have hnj : n1 = j + 1 := by rw [← hn1, ← hj]; simp
            subst hnj
            obtain ⟨g1, rfl, hg1, _⟩ := hP.1.some_ (by omega)
            have hjk : j + 1 ≤ k := by omega
            have hnk2 : n2 ≤ k := by omega
            have HJ := Lib.hid hj
            have hpj : Hid ((ini ++ [p])[j]? = some p) := Lib.hid (by rw [← hj]; simp)
            clear HST hop o1 o2 o3 o4 o5 hon hn1 hj
            rcases hcc with hsh | ⟨hsh, h0⟩
            case' inr => subst h0
            all_goals
              go_wp2_with (first
                | (go_at_call 71; refine (HO.out _).mono ?_; rintro e w1 ⟨rfl, b1⟩
                   have hP1 := hP.below b1 (Nat.le_refl _)
                   have hin1 := hin.below b1 (Nat.le_refl _)
                   have hb1 := hb.trans (b1.mono hbs)
                   have hz1 := hb1.size)
                | (go_at_call 72; refine (HS.out _).mono ?_; rintro e w2 ⟨rfl, b2⟩; rw [hsh]
                   have hP2 := hP1.below b2 (Nat.le_refl _)
                   have hin2 := hin1.below b2 (Nat.le_refl _)
                   have hb2 := hb1.trans (b2.mono hz1)
                   have hz2 := hb2.size
                   obtain ⟨_, _, _, _, p4⟩ := hP2.cells_at hpj.out)
                | (at_builtin; refine wpList_app1 Tryz.elTexts rfl (.tmp 78) (.tmp 80) rfl rfl (by exact (hP2.2.1 p (by simp)).alloc _) rfl (Blk.new' _ _ _ _ (by simp)) rfl (by simp [Value.oneCell']) (by simp only [maxLen]; omega) (by omega) (by simp; omega) ?_
                   intro A3 c3 w3 hr3 ho3 hm3
                   have hrow := (hP2.1.alloc (.cells #[.string x] 9)).only ho3 ((hP2.sep p (by simp)).symm)
                   have f4 := hrow.frozen (j * 5 + 4)
                   have e4 : w3.cell? ⟨g1, j * 5 + 4, none⟩ = some (.slice p.la p.t.lines.length p.lc) := hrow.cell ((flat_get PartR.cells 5 part_len (ini ++ [p]) j 4 (by omega) hpj.out).trans rfl)))
              have hP4 := Parts.line (hP2.alloc (.cells #[.string x] 9)) ho3 hm3 hr3
              have hin4 := ((hin2.alloc (.cells #[.string x] 9)).only ho3 (hin2.sep_ne (hP2.2.1 p (by simp)) (by decide))).only (only_setCell w3 g1 (j * 5 + 4) (.slice A3 (p.t.lines.length + 1) c3)) (hin2.sep_ne hP2.1 (by decide))
              rw [HJ.out] at hP4
              go_roundw
              case rel =>
                refine ⟨k + 1, some ⟨g1, 0, none⟩, A2, j + 1, c1, _, c2, _, by omega, by go_num, rfl, rfl, by rw [HST2.out], hP4, ?_, ?_, (hb2.trans (ho3.of_alloc.below (fun a ha => ((hP2.2.1 p (by simp)).lt ha).1) hz2)).setCell (p := ⟨g1, j * 5 + 4, none⟩) hg1 _⟩
                · rw [HST2.out, HAL.out]; simp
                · rw [HST2.out]; exact hin4
              case measure => simp [intOf]; omega
      · have HST2 : Hid (frT (ls.take (k + 1)) = ⟨out ++ [⟨(ins.length : Int), true, S lbl, true, []⟩], ins ++ [out.length], false⟩) := Lib.hid (by rw [HST.out]; unfold frStep; rw [hop]; rfl)
        clear HST HS hop
        go_wp2_with (first
          | (go_at_call 71; refine (HO.out _).mono ?_; rintro e w1 ⟨rfl, b1⟩
             have hP1 := hP.below b1 (Nat.le_refl _)
             have hin1 := hin.below b1 (Nat.le_refl _)
             have hb1 := hb.trans (b1.mono hbs)
             have hz1 := hb1.size)
          | (at_builtin; refine wpList_app1 Tryz.elParts rfl (.tmp 31) (.tmp 36) rfl rfl (by exact hP1.1.alloc _) rfl (Blk.new' _ _ _ _ (by simp)) rfl (by simp [Value.oneCell']) (by simp only [maxLen]; omega) (by omega) (by simp; omega) ?_
             intro A1' c1' w2 hr2 ho2 hm2
             have hin2 := (hin1.alloc (.cells #[.int .i64 (n2 : Int), .bool true, .string (S lbl), .bool true, .slice none 0 0] 73)).only ho2 (hin1.sep_ne hP1.1 (by decide))
             have hb2 := hb1.trans (ho2.of_alloc.below (fun a ha => (hP1.1.lt ha).1) hz1)
             have hz2 := hb2.size)
          | (at_builtin; refine wpList_app1 Tryz.elInts rfl (.tmp 38) (.tmp 42) rfl rfl (by exact hin2.alloc _) rfl (Blk.new' _ _ _ _ (by simp)) rfl (by simp [Value.oneCell']) (by simp only [maxLen]; omega) (by omega) (by simp; omega) ?_
             intro A2' c2' w3 hr3 ho3 hm3))
        have hP2 : Parts w2 w.heap.size A1' (n1 + 1) c1' (ps ++ [⟨⟨(n2 : Int), true, S lbl, true, []⟩, none, 0⟩]) :=
          Parts.push (q := ⟨⟨(n2 : Int), true, S lbl, true, []⟩, none, 0⟩) (hP1.alloc _) (Own.nil _ _ _ _) (fun _ _ => Sep.none_r) ho2 hr2
        have hP3 := (hP2.alloc (.cells #[.int .i64 (n1 : Int)] 3)).only (hin2.alloc _) ho3 (by decide) (by decide)
        go_roundw
        case rel =>
          refine ⟨k + 1, A1', A2', n1 + 1, c1', n2 + 1, c2', _, by omega, by go_num, rfl, rfl, by rw [HST2.out], hP3, ?_, ?_, hb2.trans (ho3.of_alloc.below (fun a ha => (hin2.lt ha).1) hz2)⟩
          · rw [HST2.out, List.map_append, hout, hn2]; rfl
          · rw [HST2.out]
            simpa [inCells, hon] using hr3
        case measure => simp [intOf]; omega
    · have hkn : k = n := by omega
      subst hkn
      rw [List.take_of_length_le (by rw [HL.out]; omega)] at hout
      clear hok hin
      go_wp2_with fail
      go_ret
      exact ⟨A1, n1, c1, ps, rfl, hP, hout, hb⟩
end Go.Proofs.YteeoohnkfdffnaaGreatDoor
