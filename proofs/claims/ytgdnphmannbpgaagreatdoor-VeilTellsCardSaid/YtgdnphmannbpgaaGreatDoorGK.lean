/- Joined texts: VeilDia, VeilSigns, VeilLine. -/
import Derived.Test.YtgdnphmannbpgaaGreatDoorGW
import Derived.Laws.ResultCell
import Derived.Deep.DeepCutAuto
import Derived.Test.YtgdnphmannbpgaaGreatDoorGC
import Derived.Test.YtgdnphmannbpgaaGreatDoorGG
/-
  bowdlerlaw7.Diamond; veil.signs: contracts.
-/
namespace Go.Proofs.YtgdnphmannbpgaaGreatDoor
open Go.RowKit
set_option linter.unusedVariables false

def diaN : List ByteArray := [⟨#[108, 111, 119]⟩, ⟨#[108, 101, 102, 116]⟩, ⟨#[114, 105, 103, 104, 116]⟩, ⟨#[104, 105, 103, 104]⟩]
def diaP : List (Int × Int) := [(0, 1), (0, 2), (1, 3), (2, 3)]
def diaL : LatT := ⟨4, [15, 10, 12, 8], [[0, 1, 2, 3], [1, 1, 3, 3], [2, 3, 2, 3], [3, 3, 3, 3]], [[0, 0, 0, 0], [0, 1, 0, 1], [0, 0, 2, 2], [0, 1, 2, 3]]⟩
theorem dia_right : rightT diaN diaP = true := by decide +kernel
theorem dia_new (x : ByteArray) : newV diaN diaP x = if idxT diaN x < 0 then (2, none) else (0, some ⟨diaN, diaL, (idxT diaN x).toNat⟩) := by
  have h : newT diaN.length diaP = some diaL := diamond_p
  unfold newV
  rw [dia_right, if_pos rfl, h]

theorem results_cell1 {fn : Func} {p : Tmp} {ty : TypeId} (h : fn.results = #[.cell p ty]) (tmps : Array Value) (P : Program) (w : World) :
    (results fn tmps).run P w = ((asAddr (tmps.getD p undef)).run P w).andThen fun a w₁ => (loadVar ty a).run P w₁ := by
  simp only [results, h]
  simp [Sem.run_bind, Result.andThen]

set_option maxHeartbeats 2000000 in
set_option maxRecDepth 100000 in
theorem diamond_any (w : World) : Calls Tryz.prog 18 #[] w fun e w' => ∃ A B, e = .returned (.agg #[.slice A 4 4, .slice B 4 4]) ∧ Reads w' w'.heap.size 1 A 4 (txCells diaN) ∧ Reads w' w'.heap.size 2 B 4 (prCells diaP) ∧ Below w.heap.size w w' := by
  go_enter Tryz.func18, Tryz.ntmps18
  go_wp2_with fail
  have B1 := (Blk.new' (w.alloc (.cells #[.slice (some ⟨w.heap.size + 1, 0, none⟩) 4 4, .slice (some ⟨w.heap.size + 1 + 1, 0, none⟩) 4 4] 26)) 9 #[.string ⟨#[108, 111, 119]⟩, .string ⟨#[108, 101, 102, 116]⟩, .string ⟨#[114, 105, 103, 104, 116]⟩, .string ⟨#[104, 105, 103, 104]⟩] (w.heap.size + 1) (by simp)).alloc (.cells #[.int .i64 0, .int .i64 1, .int .i64 0, .int .i64 2, .int .i64 1, .int .i64 3, .int .i64 2, .int .i64 3] 53)
  have B2 := Blk.new' ((w.alloc (.cells #[.slice (some ⟨w.heap.size + 1, 0, none⟩) 4 4, .slice (some ⟨w.heap.size + 1 + 1, 0, none⟩) 4 4] 26)).alloc (.cells #[.string ⟨#[108, 111, 119]⟩, .string ⟨#[108, 101, 102, 116]⟩, .string ⟨#[114, 105, 103, 104, 116]⟩, .string ⟨#[104, 105, 103, 104]⟩] 9)) 53 #[.int .i64 0, .int .i64 1, .int .i64 0, .int .i64 2, .int .i64 1, .int .i64 3, .int .i64 2, .int .i64 3] (w.heap.size + 1 + 1) (by simp)
  have B0 := ((Blk.new w 26 #[.slice (some ⟨w.heap.size + 1, 0, none⟩) 4 4, .slice (some ⟨w.heap.size + 1 + 1, 0, none⟩) 4 4]).alloc (.cells #[.string ⟨#[108, 111, 119]⟩, .string ⟨#[108, 101, 102, 116]⟩, .string ⟨#[114, 105, 103, 104, 116]⟩, .string ⟨#[104, 105, 103, 104]⟩] 9)).alloc (.cells #[.int .i64 0, .int .i64 1, .int .i64 0, .int .i64 2, .int .i64 1, .int .i64 3, .int .i64 2, .int .i64 3] 53)
  have hb : Below w.heap.size w (((w.alloc (.cells #[.slice (some ⟨w.heap.size + 1, 0, none⟩) 4 4, .slice (some ⟨w.heap.size + 1 + 1, 0, none⟩) 4 4] 26)).alloc (.cells #[.string ⟨#[108, 111, 119]⟩, .string ⟨#[108, 101, 102, 116]⟩, .string ⟨#[114, 105, 103, 104, 116]⟩, .string ⟨#[104, 105, 103, 104]⟩] 9)).alloc (.cells #[.int .i64 0, .int .i64 1, .int .i64 0, .int .i64 2, .int .i64 1, .int .i64 3, .int .i64 2, .int .i64 3] 53)) := (((Below.refl _ _).alloc (Nat.le_refl _) _).alloc (by simp) _).alloc (by simp; omega) _
  have b0 := B0.cell 0
  have b1 := B0.cell 1
  generalize ((w.alloc (.cells #[.slice (some ⟨w.heap.size + 1, 0, none⟩) 4 4, .slice (some ⟨w.heap.size + 1 + 1, 0, none⟩) 4 4] 26)).alloc (.cells #[.string ⟨#[108, 111, 119]⟩, .string ⟨#[108, 101, 102, 116]⟩, .string ⟨#[114, 105, 103, 104, 116]⟩, .string ⟨#[104, 105, 103, 104]⟩] 9)).alloc (.cells #[.int .i64 0, .int .i64 1, .int .i64 0, .int .i64 2, .int .i64 1, .int .i64 3, .int .i64 2, .int .i64 3] 53) = w3 at *
  try simp only [Exit.inBlock, Exit.then]
  refine bodyPost_ret (v := .agg #[.slice (some ⟨w.heap.size + 1, 0, none⟩) 4 4, .slice (some ⟨w.heap.size + 1 + 1, 0, none⟩) 4 4]) ?_ rfl ?_
  · rw [results_cell1 rfl]
    go_simp
  · refine ⟨some ⟨w.heap.size + 1, 0, none⟩, some ⟨w.heap.size + 1 + 1, 0, none⟩, rfl, ⟨by decide, fun _ => ⟨_, rfl, B1.lt, fun j u hu => ?_⟩⟩, ⟨by decide, fun _ => ⟨_, rfl, B2.lt, fun j u hu => ?_⟩⟩, hb⟩
    · rw [add_at, B1.cell j, ← Array.getElem?_toList]
      exact hu
    · rw [add_at, B2.cell j, ← Array.getElem?_toList]
      exact hu
end Go.Proofs.YtgdnphmannbpgaaGreatDoor
/-
  veil.signs: its contract.
-/
namespace Go.Proofs.YtgdnphmannbpgaaGreatDoor
open Go.RowKit
set_option linter.unusedVariables false

/-- how far the first row of signs goes: what is left, at a place, with so many found -/
def signsG : Nat → Nat → List UInt8 → Nat
  | _, n, [] => n
  | pos, n, b :: t => if b = 35 then signsG (pos + 1) (pos + 1) t else if 0 < n then n else signsG (pos + 1) n t
def signsT (l : List UInt8) : Nat := signsG 0 0 l
/-- bytes that are no signs, ahead of all signs -/
theorem signsG_skip : ∀ (k pos : Nat) (l : List UInt8), (∀ b ∈ l.take k, b ≠ 35) → k ≤ l.length → signsG pos 0 l = signsG (pos + k) 0 (l.drop k)
  | 0, pos, l, _, _ => rfl
  | k + 1, pos, [], _, h => by simp at h
  | k + 1, pos, b :: t, h, hk => by
    have hb : b ≠ 35 := h b (by simp)
    rw [signsG, if_neg hb, if_neg (by omega), signsG_skip k (pos + 1) t (fun x hx => h x (by simp [hx])) (by simpa using hk), List.drop_succ_cons, show pos + 1 + k = pos + (k + 1) by omega]

set_option maxHeartbeats 2000000 in
set_option maxRecDepth 100000 in
theorem signs_any (s : ByteArray) (w : World) (hs : s.size ≤ 9223372036854775806) :
    Calls Tryz.prog 36 #[.string s] w fun e w' => e = .returned (.int .i64 (signsT (L s) : Int)) ∧ signsT (L s) ≤ s.size ∧ Below w.heap.size w w' := by
  obtain ⟨V, hV⟩ : ∃ V, signsT (L s) = V := ⟨_, rfl⟩
  rw [hV]
  have HV := Lib.hid hV
  clear hV
  go_enter Tryz.func36, Tryz.ntmps36
  go_wp2_with fail
  go_loopw [3] (fun s3 wr => ∃ pos n : Nat, s3 = .int .i64 n ∧ pos ≤ s.size ∧ n ≤ pos ∧ Hid (signsG pos n ((L s).drop pos) = V) ∧ wr.heap[w.heap.size]? = some (.stringIter s pos) ∧ Below w.heap.size w wr)
    (fun _ wr => s.size - wr.iterPos w.heap.size)
  case atStart =>
    refine ⟨0, 0, rfl, by omega, Nat.le_refl _, Lib.hid HV.out, ?_, (Below.refl _ w).alloc (Nat.le_refl _) _⟩
    exact World.iter_heap w s 0
  case round =>
    obtain ⟨pos, n, rfl, hps, hnp, HG, hit, hbw⟩ := hrel
    have hsz : w.heap.size < wr.heap.size := (Array.getElem?_eq_some_iff.1 hit).1
    by_cases hp : pos < s.size
    · have hnx : ∀ ty, (Instr.next (.pointer (some ⟨w.heap.size, 0, none⟩)) true ty).run Tryz.prog wr = _ := fun ty => Lib.run_next_any_at wr w.heap.size s pos ty hit hp
      obtain ⟨⟨dlo, dhi⟩, dw, dle, dmid⟩ := decode_span s pos hp
      have hpl : pos < (L s).length := by simpa using hp
      have hit2 := Lib.iterAt_heap wr w.heap.size s pos (pos + (Utf8.decode s pos).2) hit
      have hbw2 := Lib.below_iterAt hbw (k := w.heap.size) (by omega) s (pos + (Utf8.decode s pos).2)
      have hd : (L s).drop pos = (L s)[pos]'hpl :: (L s).drop (pos + 1) := List.drop_eq_getElem_cons hpl
      have hg := HG.out
      rw [hd, signsG] at hg
      obtain ⟨b, hb⟩ : ∃ b, (L s)[pos]'hpl = b := ⟨_, rfl⟩
      rw [hb] at dlo dhi hg
      by_cases h35 : b = 35
      · rw [if_pos h35] at hg
        have hdd := dlo (by rw [h35]; decide)
        rw [hdd] at hnx hit2 hbw2
        have hb35 : b.toNat = 35 := by rw [h35]; rfl
        rw [hb35] at hnx
        have HG2 := Lib.hid hg
        have Hit := Lib.hid hit
        clear hdd dlo dhi dmid hit hbw hb hg hd h35 hb35
        go_wp2_with fail
        go_roundw
        case rel => exact ⟨pos + 1, pos + 1, by go_num, by omega, Nat.le_refl _, HG2, hit2, hbw2⟩
        case measure => simp only [World.iterPos, hit2, Hit.out]; omega
      · rw [if_neg h35] at hg
        have hr : (Utf8.decode s pos).1 ≠ 35 := by
          by_cases hlo : b.toNat < 128
          · rw [dlo hlo]
            exact fun e => h35 (UInt8.toNat_inj.1 (Eq.trans e rfl))
          · have := dhi (by omega); omega
        have c3 : (((Utf8.decode s pos).1 : Int) == 35) = false := by rw [beq_eq_false_iff_ne]; omega
        have hskip : n = 0 → signsG (pos + (Utf8.decode s pos).2) n ((L s).drop (pos + (Utf8.decode s pos).2)) = V := fun hn => by
          subst hn
          have := signsG_skip (Utf8.decode s pos).2 pos ((L s).drop pos) (fun x hx => by
            rw [List.mem_iff_getElem?] at hx
            obtain ⟨j, hj⟩ := hx
            rw [List.getElem?_take] at hj
            split at hj
            · rename_i hjk
              rw [List.getElem?_drop] at hj
              obtain ⟨hjl, e⟩ := List.getElem?_eq_some_iff.1 hj
              rcases Nat.eq_zero_or_pos j with h0 | h0
              · subst h0
                rw [← e]
                simp only [Nat.add_zero]
                rw [hb]
                exact h35
              · have := dmid (pos + j) (by simpa using hjl) (by omega) (by omega)
                rw [e] at this
                intro e2
                rw [e2] at this
                exact absurd this (by decide)
            · cases hj) (by rw [List.length_drop, length_L]; omega)
          rw [List.drop_drop] at this
          rw [← this]
          exact HG.out
        have HSK := Lib.hid hskip
        have Hit := Lib.hid hit
        have HGE := Lib.hid hg
        clear dlo dhi dmid hit hb hg hd h35 hskip hr
        rcases Nat.eq_zero_or_pos n with h0 | h0
        · have HG2 : Hid (signsG (pos + (Utf8.decode s pos).2) n ((L s).drop (pos + (Utf8.decode s pos).2)) = V) := Lib.hid (HSK.out h0)
          have q1 : ¬ 0 < n := by omega
          clear h0
          go_wp2_with fail
          go_roundw
          case rel => exact ⟨pos + (Utf8.decode s pos).2, n, rfl, by omega, by omega, HG2, hit2, hbw2⟩
          case measure => simp only [World.iterPos, hit2, Hit.out]; omega
        · have HN : Hid (n = V) := Lib.hid (by have := HGE.out; rwa [if_pos h0] at this)
          go_wp2_with fail
          go_ret
          rw [← HN.out]
          exact ⟨rfl, by omega, hbw2⟩
    · have hnx : ∀ ty, (Instr.next (.pointer (some ⟨w.heap.size, 0, none⟩)) true ty).run Tryz.prog wr = _ := fun ty => Lib.run_next_end_at wr w.heap.size s pos ty hit hp
      have HN : Hid (n = V) := Lib.hid (by
        have := HG.out
        rwa [List.drop_of_length_le (by simp; omega), signsG] at this)
      go_wp2_with fail
      go_ret
      rw [← HN.out]
      exact ⟨rfl, by omega, hbw⟩
end Go.Proofs.YtgdnphmannbpgaaGreatDoor
/-
  (*veil.Seer).Line: its contract.
-/
namespace Go.Proofs.YtgdnphmannbpgaaGreatDoor
open Go.RowKit
set_option linter.unusedVariables false

/-- a span not to be seen, emptied -/
def hideP (s : SeerT) (u : List ByteArray) (p : PieceT) : PieceT := if p.span && !seesT s (u ++ [p.label]) then { p with text := ⟨#[]⟩ } else p
def bodyT (s : SeerT) (l : ByteArray) (u : List ByteArray) : ByteArray := S (piecesB ((spansT l).map (hideP s u)))
def headT (a lb : ByteArray) : ByteArray := a.extract 0 (signsT (L a)) ++ ⟨#[32, 123, 61]⟩ ++ lb ++ ⟨#[125]⟩
/-- what Line answers -/
def lineT (s : SeerT) (l : ByteArray) (u : List ByteArray) : ByteArray :=
  match headedT (L l) with
  | none => bodyT s l u
  | some (a, lb) => if seesT s (u ++ [S lb]) then bodyT s l (u ++ [S lb]) else headT (S a) (S lb)
def underT (l : ByteArray) (u : List ByteArray) : List ByteArray :=
  match headedT (L l) with
  | none => u
  | some (_, lb) => u ++ [S lb]

theorem headed_le {l a lb : List UInt8} (h : headedT l = some (a, lb)) : a.length + lb.length ≤ l.length := by
  unfold headedT at h
  split at h
  · split at h
    · split at h
      · split at h
        · have h1 := trimR_le l
          have h2 := trimSuf_le (Lib.trimRightB l 32) [125]
          simp only [Option.some.injEq, Prod.mk.injEq] at h
          obtain ⟨rfl, rfl⟩ := h
          rw [List.length_take, List.length_drop]
          omega
        · cases h
      · cases h
    · cases h
  · cases h
theorem piecesB_one (ps : List PieceT) (p : PieceT) : (piecesB (ps ++ [p])).length = (piecesB ps).length + (pieceB p).length := by
  simp [piecesB]
/-- pieces are few, and no longer than the line -/
theorem spF_len (s : ByteArray) : ∀ (f pos frm : Nat) (out : List PieceT), pos ≤ s.size → frm ≤ s.size → out.length ≤ (piecesB out).length → (piecesB out).length ≤ frm →
    (spF s f pos frm out).length ≤ (piecesB (spF s f pos frm out)).length ∧ (piecesB (spF s f pos frm out)).length ≤ s.size
  | 0, pos, frm, out, _, h1, h2, h3 => ⟨h2, Nat.le_trans h3 h1⟩
  | f + 1, pos, frm, out, h0, h1, h2, h3 => by
    have tx : ∀ a b : Nat, a < b → b ≤ s.size → (pieceB ⟨false, ⟨#[]⟩, s.extract a b⟩).length = b - a := fun a b hab hb => by
      simp [pieceB, ByteArray.size_extract]
      omega
    unfold spF
    by_cases hp : pos < s.size
    · rw [if_pos hp]
      obtain ⟨⟨_, _⟩, _, dle, _⟩ := decode_span s pos hp
      by_cases hf : pos < frm
      · rw [if_pos hf]
        exact spF_len s f _ _ _ (by omega) h1 h2 h3
      · rw [if_neg hf]
        cases hsp : spanT ((L s).drop pos) with
        | none => exact spF_len s f _ _ _ (by omega) h1 h2 h3
        | some at_ =>
          obtain ⟨a, t⟩ := at_
          obtain ⟨r, e, _⟩ := spanT_some hsp
          have hl := congrArg List.length e
          simp only [List.length_drop, length_L, List.length_append, List.length_cons, List.length_nil] at hl
          have hpc : (pieceB ⟨true, S a, S t⟩).length = a.length + t.length + 5 := by simp [pieceB]; omega
          simp only
          split
          · rename_i hlt
            have h4 := tx frm pos hlt h0
            refine spF_len s f _ _ _ (by omega) (by omega) ?_ ?_
            · rw [piecesB_one, piecesB_one]; simp only [List.length_append, List.length_cons, List.length_nil]; omega
            · rw [piecesB_one, piecesB_one]; omega
          · refine spF_len s f _ _ _ (by omega) (by omega) ?_ ?_
            · rw [piecesB_one]; simp only [List.length_append, List.length_cons, List.length_nil]; omega
            · rw [piecesB_one]; omega
    · rw [if_neg hp]
      split
      · rename_i hlt
        have h4 := tx frm s.size hlt (Nat.le_refl _)
        rw [piecesB_one]
        simp only [List.length_append, List.length_cons, List.length_nil]
        omega
      · exact ⟨h2, Nat.le_trans h3 h1⟩
theorem spans_len (s : ByteArray) : (spansT s).length ≤ s.size ∧ (piecesB (spansT s)).length ≤ s.size := by
  have := spF_len s (s.size + 1) 0 0 [] (Nat.zero_le _) (Nat.zero_le _) (Nat.zero_le _) (Nat.zero_le _)
  exact ⟨Nat.le_trans this.1 this.2, this.2⟩
theorem hide_len (s : SeerT) (u : List ByteArray) : ∀ ps : List PieceT, (piecesB (ps.map (hideP s u))).length ≤ (piecesB ps).length
  | [] => Nat.le_refl _
  | p :: ps => by
    have h := hide_len s u ps
    have h1 : (pieceB (hideP s u p)).length ≤ (pieceB p).length := by
      unfold hideP
      split
      · unfold pieceB
        simp only
        split
        · simp
        · simp
      · exact Nat.le_refl _
    simp only [piecesB, List.map_cons, List.flatMap_cons, List.length_append] at h ⊢
    omega
theorem SeerR.up {w : World} {K K' g : Nat} {s : SeerT} (h : SeerR w K g s) (hk : K ≤ K') : SeerR w K' g s := by
  obtain ⟨h1, A, c, p, hB, hn, hl⟩ := h
  exact ⟨by omega, A, c, p, hB, hn.up hk, hl.up hk⟩
theorem sees_at (g K : Nat) (s : SeerT) (A : Option Addr) (n c : Nat) (ls : List ByteArray) (w : World) (h : SeerR w K g s) (ok : SeerOk s) (hK : K ≤ w.heap.size) (hr : Reads w w.heap.size 1 A n (txCells ls)) (hn : n ≤ 1099511627776) :
    Calls Tryz.prog 8 #[.pointer (some ⟨g, 0, none⟩), .slice A n c] w fun e w' => e = .returned (.bool (seesT s ls)) ∧ Below w.heap.size w w' :=
  sees_any g w.heap.size s A n c ls w (h.up hK) ok (Nat.le_refl _) hr hn
/-- the first k turned -/
def mixP (f : PieceT → PieceT) (l : List PieceT) (k : Nat) : List PieceT := (l.take k).map f ++ l.drop k
theorem mixP_get (f : PieceT → PieceT) {l : List PieceT} {k : Nat} {x : PieceT} (h : l[k]? = some x) : (mixP f l k)[k]? = some x := by
  have hk := (List.getElem?_eq_some_iff.1 h).1
  unfold mixP
  rw [List.getElem?_append_right (by simp; omega)]
  simp only [List.length_map, List.length_take, List.getElem?_drop]
  rw [show k + (k - min k l.length) = k by omega, h]
theorem mixP_set (f : PieceT → PieceT) {l : List PieceT} {k : Nat} {x : PieceT} (h : l[k]? = some x) : (mixP f l k).set k (f x) = mixP f l (k + 1) := by
  have hk := (List.getElem?_eq_some_iff.1 h).1
  unfold mixP
  rw [List.set_append_right _ _ (by simp; omega), List.take_add_one, h, drop_one h]
  simp only [List.length_map, List.length_take, Option.toList_some, List.map_append, List.map_cons, List.map_nil, List.append_assoc, List.cons_append, List.nil_append]
  rw [show k - min k l.length = 0 by omega, List.set_cons_zero]
theorem mixP_same (f : PieceT → PieceT) {l : List PieceT} {k : Nat} {x : PieceT} (h : l[k]? = some x) (hf : f x = x) : mixP f l (k + 1) = mixP f l k := by
  unfold mixP
  rw [List.take_add_one, h, drop_one h]
  simp [hf]

set_option maxHeartbeats 4000000 in
set_option maxRecDepth 100000 in
theorem line_any (g K : Nat) (s : SeerT) (l : ByteArray) (A : Option Addr) (n c : Nat) (u : List ByteArray) (w : World) (hgl : Glb w) (h : SeerR w K g s) (ok : SeerOk s) (hK : K ≤ w.heap.size) (hr : Reads w w.heap.size 1 A n (txCells u)) (hn : n ≤ 1000000) (hl : l.size ≤ 1048576) :
    Calls Tryz.prog 11 #[.pointer (some ⟨g, 0, none⟩), .string l, .slice A n c] w fun e w' => e = .returned (.string (lineT s l u)) ∧ Below w.heap.size w w' := by
  obtain ⟨V, hV⟩ : ∃ V, lineT s l u = V := ⟨_, rfl⟩
  rw [hV]
  have HV := Lib.hid hV
  clear hV
  have HH := Lib.hid (heading_any l w hl)
  obtain ⟨uu, huu⟩ : ∃ uu, underT l u = uu := ⟨_, rfl⟩
  have HU2 := Lib.hid huu
  clear huu
  have HS := Lib.hid h
  have hgK := h.glt
  clear h
  have HSL := Lib.hid (spans_len l)
  obtain ⟨va, vb, b, hv, hF, hT⟩ : ∃ (va vb : ByteArray) (b : Bool), headedV (headedT (L l)) = .tuple #[.string va, .string vb, .bool b] ∧ (b = false → uu = u ∧ bodyT s l u = V) ∧ (b = true → uu = u ++ [vb] ∧ (V = if seesT s (u ++ [vb]) then bodyT s l (u ++ [vb]) else headT va vb) ∧ va.size + vb.size ≤ l.size) := by
    rcases hhe : headedT (L l) with _ | ⟨a, lb⟩
    · refine ⟨⟨#[]⟩, ⟨#[]⟩, false, rfl, fun _ => ⟨by rw [← HU2.out]; unfold underT; rw [hhe], by rw [← HV.out]; unfold lineT; rw [hhe]⟩, fun h => by cases h⟩
    · refine ⟨S a, S lb, true, rfl, (fun h => by cases h), fun _ => ⟨by rw [← HU2.out]; unfold underT; rw [hhe], by rw [← HV.out]; unfold lineT; rw [hhe], ?_⟩⟩
      have := headed_le hhe
      rw [length_L] at this
      rw [size_S, size_S]
      exact this
  rw [hv] at HH
  have HF := Lib.hid hF
  have HT := Lib.hid hT
  clear hv hF hT
  go_enter Tryz.func11, Tryz.ntmps11
  go_upto_region 4 with (go_at_call 35; refine HH.out.mono ?_; rintro e w1 ⟨rfl, b1⟩)
  have hr1 := (hr.below b1).up b1.size
  have z1 := b1.size
  clear HH
  go_cut [21] (fun s21 wx => s21 = .bool b ∧ wx = w1)
  case first =>
    go_wp2_with fail
    go_meet
    exact ⟨rfl, rfl⟩
  case rest =>
  obtain ⟨rfl, hwW⟩ := hcut
  rw [hwW]
  clear hwW
  apply_assumption
  go_cut [2] (fun s2 wx => ∃ (A2 : Option Addr) (n2 c2 : Nat), s2 = .slice A2 n2 c2 ∧ n2 ≤ n + 1 ∧ Reads wx wx.heap.size 1 A2 n2 (txCells uu) ∧ Hid (bodyT s l uu = V) ∧ Below w.heap.size w wx)
  case first =>
    cases b
    · obtain ⟨e1, e2⟩ := HF.out rfl
      have HE2 := Lib.hid e2
      have HE1 := Lib.hid e1
      clear e1 e2
      go_wp2_with fail
      go_meet
      rw [HE1.out]
      exact ⟨A, n, c, rfl, by omega, hr1, by rw [← HE1.out]; exact Lib.hid (by rw [HE1.out]; exact HE2.out), b1⟩
    · obtain ⟨HE2, HV2, hle⟩ := HT.out rfl
      obtain ⟨sn, hsn⟩ : ∃ sn, seesT s (u ++ [vb]) = sn := ⟨_, rfl⟩
      have HSEE := Lib.hid (fun (A2 : Option Addr) (c2 : Nat) (w2 : World) (b2 : Below w.heap.size w w2) (h2 : Reads w2 w2.heap.size 1 A2 (n + 1) (txCells (u ++ [vb]))) =>
        (sees_at g K s A2 (n + 1) c2 (u ++ [vb]) w2 (HS.out.below (b2.mono hK)) ok (by have := b2.size; omega) (h2) (by omega)))
      rw [hsn] at HSEE HV2
      have hsg := fun W => signs_any va W (by omega)
      obtain ⟨k, hk⟩ : ∃ k, signsT (L va) = k := ⟨_, rfl⟩
      have HHT : Hid (headT va vb = va.extract 0 k ++ ⟨#[32, 123, 61]⟩ ++ vb ++ ⟨#[125]⟩) := Lib.hid (by rw [← hk]; rfl)
      rw [hk] at hsg
      have HSG := Lib.hid hsg
      clear hsg hk hsn
      cases sn
      · have HV3 : Hid (V = headT va vb) := Lib.hid HV2
        clear HV2 HE2
        go_wp2_with (first
          | (go_at_call 32; refine (with_any A n c w1.heap.size u vb w1 hr1 (Nat.le_refl _) (by omega)).mono ?_; rintro e w2 ⟨A2, c2, rfl, o2, b2⟩
             have bb2 := b1.trans (b2.mono z1)
             have hr2 := o2.reads)
          | (go_at_call 8; refine (HSEE.out A2 c2 w2 bb2 hr2).mono ?_; rintro e w3 ⟨rfl, b3⟩
             have bb3 := bb2.trans (b3.mono bb2.size))
          | (go_at_call 36; refine (HSG.out _).mono ?_; rintro e w4 ⟨rfl, hks, b4⟩
             have bb4 := bb3.trans (b4.mono bb3.size)))
        go_ret
        rw [HV3.out, HHT.out]
        exact ⟨rfl, bb4⟩
      · have HV3 : Hid (bodyT s l uu = V) := Lib.hid (by rw [HE2, HV2]; rfl)
        have HE3 := Lib.hid HE2
        clear HV2 HE2
        go_wp2_with (first
          | (go_at_call 32; refine (with_any A n c w1.heap.size u vb w1 hr1 (Nat.le_refl _) (by omega)).mono ?_; rintro e w2 ⟨A2, c2, rfl, o2, b2⟩
             have bb2 := b1.trans (b2.mono z1)
             have hr2 := o2.reads)
          | (go_at_call 8; refine (HSEE.out A2 c2 w2 bb2 hr2).mono ?_; rintro e w3 ⟨rfl, b3⟩
             have bb3 := bb2.trans (b3.mono bb2.size)))
        go_meet
        rw [HE3.out]
        exact ⟨A2, n + 1, c2, rfl, by omega, (hr2.below b3).up b3.size, by rw [← HE3.out]; exact HV3, bb3⟩
  case rest =>
  obtain ⟨A2, n2, c2, rfl, hn2, hr2, HBO, hbc⟩ := hcut
  apply_assumption
  have hgc := hgl.below hbc
  have HS2 := Lib.hid ((HS.out.below (hbc.mono hK)).up (show K ≤ wc.heap.size by have := hbc.size; omega))
  have hzc := hbc.size
  go_wp2_with (go_at_call 37; refine (spans_any l wc hgc hl).mono ?_; rintro e w1 ⟨A1, m, c1, rfl, o1, b1⟩)
  have hm : m = (spansT l).length := by
    have := o1.len
    rw [pieces_length] at this; omega
  have hml : m ≤ 1048576 := by have := HSL.out.1; omega
  have HM := Lib.hid hm
  clear hm
  obtain ⟨ps, hps⟩ : ∃ ps, spansT l = ps := ⟨_, rfl⟩
  rw [hps] at o1
  have HPS := Lib.hid hps
  clear hps
  go_loopw [41] (fun s41 wr => ∃ k, k ≤ m ∧ s41 = .int .i64 (k : Int) ∧ Own wr wc.heap.size 78 3 A1 m c1 (pieceCells (mixP (hideP s uu) ps k)) ∧ Below wc.heap.size wc wr) (fun s41 _ => m - (intOf s41).toNat)
  case atStart => exact ⟨0, Nat.zero_le _, rfl, by simpa [mixP] using o1, b1⟩
  case round =>
    clear o1 b1
    obtain ⟨k, hk, rfl, hown, hb⟩ := hrel
    have hzw := hb.size
    by_cases hlt : k < m
    · obtain ⟨x, hx⟩ : ∃ x, ps[k]? = some x := ⟨_, List.getElem?_eq_getElem (by have := HM.out; rw [HPS.out] at this; omega)⟩
      obtain ⟨q, rfl, hgb, _⟩ := hown.some_ (by omega)
      have hmx := mixP_get (hideP s uu) hx
      have tt := fun j (hj : j < 3) => flat_get PieceT.cells 3 piece_len (mixP (hideP s uu) ps k) k j hj hmx
      have t0 := hown.cell (j := k * 3) (u := .bool x.span) (by have := tt 0 (by omega); rw [Nat.add_zero] at this; exact this.trans rfl)
      have t1 := hown.cell (j := k * 3 + 1) (u := .string x.label) ((tt 1 (by omega)).trans rfl)
      have t2 := hown.cell (j := k * 3 + 2) (u := .string x.text) ((tt 2 (by omega)).trans rfl)
      have HZ := Lib.hid (tt 2 (by omega))
      clear tt
      have hbw := hbc.trans (hb.mono hzc)
      cases hsp : x.span
      · have HSAME : Hid (mixP (hideP s uu) ps (k + 1) = mixP (hideP s uu) ps k) := Lib.hid (mixP_same _ hx (by unfold hideP; rw [hsp]; rfl))
        rw [hsp] at t0
        clear hsp hx hmx
        go_wp2_with fail
        go_roundw
        case rel => exact ⟨k + 1, by omega, by go_num, by rw [HSAME.out]; exact hown.alloc _, hb.alloc hzw _⟩
        case measure => simp [intOf]; omega
      · rw [hsp] at t0
        obtain ⟨sn, hsn⟩ : ∃ sn, seesT s (uu ++ [x.label]) = sn := ⟨_, rfl⟩
        have hr4 := (hr2.below hb).up hzw
        have HSEE := Lib.hid (fun (A3 : Option Addr) (c3 : Nat) (w3 : World) (b3 : Below wr.heap.size wr w3) (h3 : Reads w3 w3.heap.size 1 A3 (n2 + 1) (txCells (uu ++ [x.label]))) =>
          (sees_at g K s A3 (n2 + 1) c3 (uu ++ [x.label]) w3 (HS.out.below ((hbw.trans (b3.mono (by have := hbw.size; omega))).mono hK)) ok (by have := hbw.size; have := b3.size; omega) h3 (by omega)))
        rw [hsn] at HSEE
        have ba : Below wr.heap.size wr (wr.alloc (.cells #[.bool true, .string x.label, .string x.text] 78)) := (Below.refl _ _).alloc (Nat.le_refl _) _
        have za := ba.size
        have hra := hr4.below ba
        have HX : Hid (hideP s uu x = if sn then x else { x with text := ⟨#[]⟩ }) := Lib.hid (by unfold hideP; rw [hsp, hsn]; cases sn <;> rfl)
        cases sn
        · have hset := mixP_set (hideP s uu) hx
          have hflat := flat_set PieceT.cells 3 piece_len (mixP (hideP s uu) ps k) k 2 (by omega) hmx (x' := hideP s uu x) (v := .string ⟨#[]⟩) (by rw [HX.out]; rfl)
          rw [hset] at hflat
          have HFL := Lib.hid hflat
          clear hsp hsn hx hmx hset hflat
          go_wp2_with (first
            | (go_at_call 32; refine (with_any A2 n2 c2 wr.heap.size uu x.label _ hra za (by omega)).mono ?_; rintro e w3 ⟨A3, c3, rfl, o3, b3⟩
               have bb3 := ba.trans (b3.mono za)
               have hr3 := o3.reads)
            | (go_at_call 8; refine (HSEE.out A3 c3 w3 bb3 hr3).mono ?_; rintro e w5 ⟨rfl, b5⟩
               have bb5 := bb3.trans (b5.mono bb3.size)
               have hown5 := hown.below bb5 (Nat.le_refl _)
               have f5 := hown5.frozen (k * 3 + 2)
               have z5 := hown5.cell (j := k * 3 + 2) (u := .string x.text) (HZ.out.trans rfl)))
          have hown6 := hown5.stored (k * 3 + 2) (.string ⟨#[]⟩)
          have hfe : (pieceCells (mixP (hideP s uu) ps k)).set (k * 3 + 2) (.string ⟨#[]⟩) = pieceCells (mixP (hideP s uu) ps (k + 1)) := HFL.out
          rw [hfe] at hown6
          go_roundw
          case rel => exact ⟨k + 1, by omega, by go_num, hown6, (hb.trans (bb5.mono hzw)).setCell (p := ⟨q, k * 3 + 2, none⟩) hgb _⟩
          case measure => simp [intOf]; omega
        · have HSAME : Hid (mixP (hideP s uu) ps (k + 1) = mixP (hideP s uu) ps k) := Lib.hid (mixP_same _ hx HX.out)
          clear hsp hsn hx hmx
          go_wp2_with (first
            | (go_at_call 32; refine (with_any A2 n2 c2 wr.heap.size uu x.label _ hra za (by omega)).mono ?_; rintro e w3 ⟨A3, c3, rfl, o3, b3⟩
               have bb3 := ba.trans (b3.mono za)
               have hr3 := o3.reads)
            | (go_at_call 8; refine (HSEE.out A3 c3 w3 bb3 hr3).mono ?_; rintro e w5 ⟨rfl, b5⟩
               have bb5 := bb3.trans (b5.mono bb3.size)
               have hown5 := hown.below bb5 (Nat.le_refl _)))
          go_roundw
          case rel => exact ⟨k + 1, by omega, by go_num, by rw [HSAME.out]; exact hown5, hb.trans (bb5.mono hzw)⟩
          case measure => simp [intOf]; omega
    · have hkm : k = m := by omega
      subst hkm
      have hall : mixP (hideP s uu) ps k = ps.map (hideP s uu) := by
        unfold mixP
        have := HM.out
        rw [HPS.out] at this
        rw [this, List.take_length, List.drop_length, List.append_nil]
      rw [hall] at hown
      have HVV : Hid (S (piecesB (ps.map (hideP s uu))) = V) := Lib.hid (by rw [← HBO.out]; unfold bodyT; rw [HPS.out])
      have hpl : (piecesB (ps.map (hideP s uu))).length ≤ 1048576 := by
        have h1 := hide_len s uu ps
        have h2 := HSL.out.2
        rw [HPS.out] at h2
        omega
      have HUN := Lib.hid (unspan_any A1 k c1 (ps.map (hideP s uu)) wr hown.reads (by omega) (by omega))
      clear hall hpl
      go_wp2_with (go_at_call 38; refine HUN.out.mono ?_; rintro e w9 ⟨rfl, b9⟩)
      go_ret
      rw [HVV.out]
      exact ⟨rfl, (hbc.trans (hb.mono hzc)).trans (b9.mono (by omega))⟩
end Go.Proofs.YtgdnphmannbpgaaGreatDoor
