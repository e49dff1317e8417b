/-
  bowdlerlaw14.EmphNests: its walk: it answers true, and turns nothing that was there.
-/
import Derived.Test.YtlpkfeapgpkkhaaEmphKeeps
import Derived.Test.YtlpkfeapgpkkhaaSameInls
namespace Go.Proofs.Ytlpkfeapgpkkhaa
open Go.RowKit

def nodeI (k : Int) : Inl := ⟨k, 0, ⟨#[]⟩, ⟨#[]⟩, ⟨#[]⟩⟩
def nestPcs (n : Int) (A : Option Addr) (m c : Nat) (l : List Inl) : List Pc := [nodePc A m c l, rowPc 42 n true false, nodePc A m c l, rowPc 42 n false true, nodePc A m c l]
theorem nests_1 (l : List Inl) : (gRun (gMeas (nestPcs 1 none 0 0 l) 0 + 1) (nestPcs 1 none 0 0 l) 0).flatMap pcNodes = l ++ ([] ++ ((nodeI 3 :: (deepT l ++ [])) ++ ([] ++ (l ++ [])))) := by kernel_rfl
theorem nests_2 (l : List Inl) : (gRun (gMeas (nestPcs 2 none 0 0 l) 0 + 1) (nestPcs 2 none 0 0 l) 0).flatMap pcNodes = l ++ ([] ++ ((nodeI 4 :: (deepT l ++ [])) ++ ([] ++ (l ++ [])))) := by kernel_rfl
theorem nests_g (l : List Inl) (n k : Int) (h : (n = 1 ∧ k = 3) ∨ (n = 2 ∧ k = 4)) (A : Option Addr) (m c : Nat) : groupT (nestPcs n A m c l) = mergeT (l ++ nodeI k :: (deepT l ++ l)) := by
  have e : groupT (nestPcs n A m c l) = groupT (nestPcs n none 0 0 l) := by rw [groupT_era]; rfl
  have e2 : (nestPcs n none 0 0 l).map era = nestPcs n none 0 0 l := rfl
  rw [e]
  unfold groupT
  rw [e2]
  rcases h with ⟨rfl, rfl⟩ | ⟨rfl, rfl⟩
  · rw [nests_1]; simp
  · rw [nests_2]; simp

def inR (x : Inl) : Prop := 0 ≤ x.depth ∧ x.depth ≤ 100
def deepI (x : Inl) : Inl := { x with depth := wrap64 (x.depth + 1) }
theorem deepT_snoc (l : List Inl) (x : Inl) : deepT (l ++ [x]) = deepT l ++ [deepI x] := by simp [deepT, deepI]
theorem deepI_depth {x : Inl} (h : inR x) : (deepI x).depth = x.depth + 1 := wrap_in (by have := h.1; omega) (by have := h.2; omega)
theorem mergeStep_deep {out : List Inl} {x : Inl} (ho : ∀ y ∈ out, inR y) (hx : inR x) : mergeStep (deepT out) (deepI x) = deepT (mergeStep out x) ∧ ∀ y ∈ mergeStep out x, inR y := by
  have dk : (deepI x).kind = x.kind ∧ (deepI x).text = x.text := ⟨rfl, rfl⟩
  by_cases h0 : x.kind = 1 ∧ x.text.size = 0
  · rw [mergeStep_skip h0, mergeStep_skip (x := deepI x) h0]
    exact ⟨rfl, ho⟩
  · by_cases hl : lastNot out x
    · have hl2 : lastNot (deepT out) (deepI x) := by
        intro t ht hh
        have : (deepT out).getLast? = out.getLast?.map deepI := by unfold deepT; rw [List.getLast?_map]; rfl
        rw [this] at ht
        cases hu : out.getLast? with
        | none => rw [hu] at ht; cases ht
        | some u =>
          rw [hu] at ht
          injection ht with ht
          subst ht
          have hur := ho u (List.mem_of_getLast? hu)
          rw [deepI_depth hx, deepI_depth hur] at hh
          exact hl u hu ⟨hh.1, hh.2.1, by omega⟩
      rw [mergeStep_new h0 hl, mergeStep_new (x := deepI x) h0 hl2, deepT_snoc]
      refine ⟨?_, fun y hy => ?_⟩
      · congr 2
        unfold cleanI deepI
        by_cases hk : x.kind = 1
        · rw [if_pos hk, if_pos hk]
        · rw [if_neg hk, if_neg hk]
      · rcases List.mem_append.1 hy with hy | hy
        · exact ho y hy
        · simp at hy; subst hy; unfold cleanI; split <;> exact hx
    · obtain ⟨t, hl⟩ := Classical.not_forall.1 hl
      simp only [Classical.not_imp, Classical.not_not] at hl
      obtain ⟨ht, hj⟩ := hl
      obtain ⟨o, rfl⟩ := List.getLast?_eq_some_iff.1 ht
      have htr := ho t (by simp)
      rw [mergeStep_join h0 hj, deepT_snoc, mergeStep_join (x := deepI x) (t := deepI t) h0 ⟨hj.1, hj.2.1, by rw [deepI_depth hx, deepI_depth htr]; omega⟩, deepT_snoc]
      refine ⟨rfl, fun y hy => ?_⟩
      rcases List.mem_append.1 hy with hy | hy
      · exact ho y (by simp [hy])
      · simp at hy; subst hy; exact htr
theorem mergeT_deep {l : List Inl} (h : ∀ x ∈ l, inR x) : mergeT (deepT l) = deepT (mergeT l) ∧ ∀ x ∈ mergeT l, inR x := by
  suffices hs : ∀ (r : List Inl), (∀ x ∈ r.reverse, inR x) → mergeT (deepT r.reverse) = deepT (mergeT r.reverse) ∧ ∀ x ∈ mergeT r.reverse, inR x by have := hs l.reverse; simpa using this (by simpa using h)
  intro r
  induction r with
  | nil => intro _; exact ⟨rfl, by simp [mergeT]⟩
  | cons x r ih =>
    intro h
    rw [List.reverse_cons] at h ⊢
    obtain ⟨i1, i2⟩ := ih fun y hy => h y (by simp [hy])
    rw [deepT_snoc, merge_snoc, merge_snoc, i1]
    exact mergeStep_deep i2 (h x (by simp))
theorem nests_law {l : List Inl} (h : ∀ x ∈ l, inR x) (k : Int) (hk : k ≠ 1) :
    mergeT (l ++ nodeI k :: (deepT l ++ l)) = mergeT l ++ nodeI k :: mergeT (deepT l ++ l) ∧
    ((∀ x, (mergeT l).head? = some x → lastNot (deepT (mergeT l)) x) → mergeT (deepT l ++ l) = deepT (mergeT l) ++ mergeT l) := by
  constructor
  · rw [mergeT_apart, mergeT_node _ _ hk]
    intro x hx t _ hc
    rw [mergeT_node _ _ hk] at hx
    simp at hx
    subst hx
    exact hk hc.1
  · intro ha
    rw [mergeT_apart, (mergeT_deep h).1]
    rw [(mergeT_deep h).1]
    exact ha

theorem small5 {n : Int} {A : Option Addr} {m c : Nat} {l : List Inl} (hn : 0 ≤ n ∧ n ≤ 40) (hl : l.length ≤ 60) (ht : txtLen l ≤ 9007199254740992) :
    (∀ x ∈ nestPcs n A m c l, x.left = max x.n 0 ∧ x.shut = false) ∧ GInv 1048576 1152921504606846976 (nestPcs n A m c l) := by
  have h : ∀ x ∈ nestPcs n A m c l, Small x ∧ x.shut = false := by
    intro x hx
    simp only [nestPcs, List.mem_cons, List.not_mem_nil, or_false] at hx
    rcases hx with rfl | rfl | rfl | rfl | rfl
    · exact ⟨small_node _ _ _ hl ht, rfl⟩
    · exact ⟨small_row _ _ _ _ hn.1 hn.2, rfl⟩
    · exact ⟨small_node _ _ _ hl ht, rfl⟩
    · exact ⟨small_row _ _ _ _ hn.1 hn.2, rfl⟩
    · exact ⟨small_node _ _ _ hl ht, rfl⟩
  exact ⟨fun x hx => ⟨(h x hx).1.1, (h x hx).2⟩, ginv_of (fun x hx => (h x hx).1) (by simp [nestPcs])⟩
theorem txt_small {l : List Inl} {m : Nat} (h : ∀ x ∈ l, inlSmall m x) : txtLen l ≤ l.length * m := by
  induction l with
  | nil => simp [txtLen]
  | cons x l ih =>
    have := ih fun y hy => h y (by simp [hy])
    have := (h x (by simp)).1
    simp only [txtLen, List.map_cons, List.sum_cons, List.length_cons, Nat.add_mul, Nat.one_mul] at *
    omega

theorem Own.inl {w : World} {base n c g : Nat} {l : List Inl} (h : Own w base 51 5 (some ⟨g, 0, none⟩) n c (inlCells l)) {i : Nat} {p : Inl} (hp : l[i]? = some p) :
    w.cell? ⟨g, i * 5, none⟩ = some (.int .i64 p.kind) ∧ w.cell? ⟨g, i * 5 + 1, none⟩ = some (.int .i64 p.depth) ∧ w.cell? ⟨g, i * 5 + 2, none⟩ = some (.string p.text) ∧ w.cell? ⟨g, i * 5 + 3, none⟩ = some (.string p.url) ∧ w.cell? ⟨g, i * 5 + 4, none⟩ = some (.string p.title) := by
  have k := fun j (hj : j < 5) => flat_get Inl.cells 5 inl_len l i j hj hp
  exact ⟨h.cell ((k 0 (by omega)).trans rfl), h.cell ((k 1 (by omega)).trans rfl), h.cell ((k 2 (by omega)).trans rfl), h.cell ((k 3 (by omega)).trans rfl), h.cell ((k 4 (by omega)).trans rfl)⟩

set_option maxHeartbeats 8000000 in
set_option maxRecDepth 100000 in
theorem emphNests_walk (A : Option Addr) (n c : Nat) (l : List Inl) (strong : Bool) (w : World) (hw : Reads w w.heap.size 5 A n (inlCells l) ∧ (∀ x ∈ l, inlWf x) ∧ ∀ x ∈ l, inlSmall 140737488351232 x) :
    Calls Try.prog 8 #[.slice A n c, .bool strong] w fun e w' => e = .returned (.bool true) ∧ Below w.heap.size w w' := by
  obtain ⟨hr, _, hsm⟩ := hw
  have hlen : l.length = n := by have := hr.1; rw [inls_length] at this; omega
  have HL := Lib.hid hlen
  by_cases hbig : 30 < n
  · clear hlen hsm
    go_enter Try.func8, Try.ntmps8
    go_wp2_with fail
    refine (alive_any _).mono ?_
    rintro e w1 ⟨rfl, b1⟩
    go_wp2_with fail
    go_ret
    exact ⟨rfl, b1⟩
  · have htx : txtLen l ≤ 9007199254740992 := Nat.le_trans (txt_small hsm) (by rw [hlen]; omega)
    clear hlen hsm
    obtain ⟨nn, hnn⟩ : ∃ nn : Int, nn = if strong then 2 else 1 := ⟨_, rfl⟩
    obtain ⟨kd, hkd⟩ : ∃ kd : Int, kd = if strong then 4 else 3 := ⟨_, rfl⟩
    have hnk : (nn = 1 ∧ kd = 3) ∨ (nn = 2 ∧ kd = 4) := by cases strong <;> simp_all
    have hnn2 : 0 ≤ nn ∧ nn ≤ 40 := by omega
    have HNN := Lib.hid hnn
    have HKD := Lib.hid hkd
    have HNK := Lib.hid hnk
    clear hnn hkd hnk
    go_enter Try.func8, Try.ntmps8
    go_wp2_with fail
    refine (alive_any _).mono ?_
    rintro e w1 ⟨rfl, b1⟩
    have z1 := b1.size
    go_upto_if 21 with fail
    go_cut [5, 6] (fun s5 s6 wx => s5 = .int .i64 nn ∧ s6 = .int .i64 kd ∧ wx = w1)
    case first =>
      have e1 := HNN.out
      have e2 := HKD.out
      cases strong
      all_goals
        simp only [if_true, if_false, Bool.false_eq_true] at e1 e2
        subst e1; subst e2
        go_wp2_with fail
        go_meet
        exact ⟨rfl, rfl, rfl⟩
    case rest =>
      obtain ⟨rfl, rfl, rfl⟩ := hcut
      go_wp2_with fail
      go_loop [24] (fun i => ∃ k : Nat, k ≤ n ∧ i = .int .i64 k ∧ ∀ x ∈ l.take k, inR x) (fun i => n - (intOf i).toNat)
      case atStart => exact ⟨0, Nat.zero_le _, rfl, by simp⟩
      case round =>
        obtain ⟨k, hk, rfl, hok⟩ := hrel
        have HOK := Lib.hid hok
        clear hok
        by_cases hlt : k < n
        · obtain ⟨x, hx⟩ : ∃ x, l[k]? = some x := ⟨_, List.getElem?_eq_getElem (by rw [HL.out]; omega)⟩
          obtain ⟨ad, rfl, _, _, g0, g1, g2, g3, g4⟩ := (hr.below b1).inl hx
          rcases (by omega : x.depth < 0 ∨ (0 ≤ x.depth ∧ 100 < x.depth) ∨ (0 ≤ x.depth ∧ x.depth ≤ 100)) with h1 | ⟨h1, h2⟩ | ⟨h1, h2⟩
          · clear hx
            go_wp2_with fail
            go_ret
            exact ⟨rfl, b1⟩
          · clear hx
            go_wp2_with fail
            go_ret
            exact ⟨rfl, b1⟩
          · have HOK2 : Hid (∀ x ∈ l.take (k + 1), inR x) := Lib.hid (by
              intro p hp
              rw [List.take_add_one, hx] at hp
              simp only [Option.toList_some, List.mem_append, List.mem_singleton] at hp
              rcases hp with hp | rfl
              · exact HOK.out p hp
              · exact ⟨h1, h2⟩)
            clear hx
            go_wp2_with fail
            go_round
            case rel => exact ⟨k + 1, by omega, by go_num, HOK2.out⟩
            case measure => simp [intOf]; omega
        · have hkn : k = n := by omega
          subst hkn
          have hok := HOK.out
          rw [List.take_of_length_le (by rw [HL.out]; omega)] at hok
          have HIN := Lib.hid hok
          obtain ⟨sm1, sm2⟩ := small5 (A := A) (m := k) (c := c) (l := l) hnn2 (by rw [HL.out]; omega) htx
          have HS1 := Lib.hid sm1
          have HS2 := Lib.hid sm2
          have HG := Lib.hid (nests_g l nn kd HNK.out A k c)
          clear HOK hok sm1 sm2 hlt hk
          go_wp2_with fail
          refine (group_any (some ⟨wc.heap.size, 0, none⟩) 5 5 (nestPcs nn A k c l) _ ?_ ?_ HS1.out HS2.out).mono ?_
          · exact (reads_new _ _ _ 5 5 _ rfl rfl).more (by simp)
          · intro p hp
            have hrA : Reads (wc.alloc (.cells #[.int .u8 0, .int .i64 0, .bool false, .bool false, .slice A k c, .int .u8 42, .int .i64 nn, .bool true, .bool false, .slice none 0 0, .int .u8 0, .int .i64 0, .bool false, .bool false, .slice A k c, .int .u8 42, .int .i64 nn, .bool false, .bool true, .slice none 0 0, .int .u8 0, .int .i64 0, .bool false, .bool false, .slice A k c] 38)) (wc.alloc (.cells #[.int .u8 0, .int .i64 0, .bool false, .bool false, .slice A k c, .int .u8 42, .int .i64 nn, .bool true, .bool false, .slice none 0 0, .int .u8 0, .int .i64 0, .bool false, .bool false, .slice A k c, .int .u8 42, .int .i64 nn, .bool false, .bool true, .slice none 0 0, .int .u8 0, .int .i64 0, .bool false, .bool false, .slice A k c] 38)).heap.size 5 A k (inlCells l) := ((hr.below b1).alloc z1 _).more (by simp; omega)
            simp only [nestPcs, List.mem_cons, List.not_mem_nil, or_false] at hp
            rcases hp with rfl | rfl | rfl | rfl | rfl
            · exact hrA
            · exact Reads.none_
            · exact hrA
            · exact Reads.none_
            · exact hrA
          rintro e w2 ⟨A8, c8, rfl, hown8, b2⟩
          have bb2 : Below w.heap.size w w2 := (b1.alloc z1 _).trans (b2.mono (by simp; omega))
          have z2 := bb2.size
          have hgl := (group_len HS2.out).1
          generalize groupT (nestPcs nn A k c l) = ga at *
          clear b2 HS1 HS2
          go_wp2_with fail
          refine (merge_any A k c l _ ((hr.below bb2).more z2) (by omega) (by omega)).mono ?_
          rintro e w3 ⟨A9, c9, rfl, hown9, b3⟩
          have bb3 := bb2.trans (b3.mono z2)
          have z3 := bb3.size
          have r8 : Reads w3 w3.heap.size 5 A8 ga.length (inlCells ga) := (hown8.below b3 (Nat.le_refl _)).reads
          have HLAW := Lib.hid (nests_law HIN.out kd (by have := HNK.out; omega))
          have HINM := Lib.hid (mergeT_deep HIN.out).2
          have hml : (mergeT l).length ≤ 30 := Nat.le_trans (mergeT_len l) (by rw [HL.out]; omega)
          have hn0 : Own w3 w3.heap.size 51 5 none 0 0 [] := Own.nil _ _ _ _
          clear hown8 b3 bb2 b1 HNN HKD
          generalize mergeT l = m at *
          go_wp2_with (first
            | (at_builtin; refine wpList_app Try.elInls rfl (.const (.slice none 0 0)) (.tmp 56) rfl rfl hn0 rfl hown9.reads (inl_one _) (by simp only [maxLen]; omega) (by omega) (Nat.le_refl _) ?_
               intro A10 c10 w4 hown10 ho10 hm10
               have b4 : Below w3.heap.size w3 w4 := ho10.below (fun a ha => by cases ha) (Nat.le_refl _)
               have z4 := b4.size
               rw [Nat.zero_add, List.nil_append] at hown10)
            | (at_builtin; refine wpList_app1 Try.elInls rfl (.tmp 58) (.tmp 61) rfl rfl (by exact hown10.alloc _) rfl (Blk.new' _ _ _ _ (by simp)) rfl (by simp [Value.oneCell']) (by simp only [maxLen]; omega) (by omega) (by simp; omega) ?_
               intro A11 c11 w5 hown11 ho11 hm11
               have b5 : Below w3.heap.size w3 w5 := b4.trans (ho11.of_alloc.below (fun a ha => (hown10.lt ha).1) z4)))
          have hw5 : Own w5 w3.heap.size 51 5 A11 (m.length + 1 + 0) c11 (inlCells (m ++ nodeI kd :: deepT (m.take 0))) := by
            have e : inlCells (m ++ nodeI kd :: deepT (m.take 0)) = inlCells m ++ [.int .i64 kd, .int .i64 0, .string ⟨#[]⟩, .string ⟨#[]⟩, .string ⟨#[]⟩] := by
              rw [inlCells, List.flatMap_append]; rfl
            rw [e]; exact hown11
          clear hm11 ho11 hown11 z4 b4 hm10 ho10 hown10 hn0
          go_loopw [10, 65] (fun s10 i wr => ∃ (j : Nat) (A1 : Option Addr) (c1 : Nat), j ≤ m.length ∧ i = .int .i64 j ∧ s10 = .slice A1 (m.length + 1 + j) c1 ∧
              Own wr w3.heap.size 51 5 A1 (m.length + 1 + j) c1 (inlCells (m ++ nodeI kd :: deepT (m.take j))) ∧ Below w3.heap.size w3 wr) (fun _ i _ => m.length - (intOf i).toNat)
          case atStart => exact ⟨0, A11, c11, Nat.zero_le _, rfl, rfl, hw5, b5⟩
          case round =>
            clear hw5 b5
            obtain ⟨j, A1, c1, hj, rfl, rfl, hown, hb⟩ := hrel
            have hbs := hb.size
            by_cases hlt : j < m.length
            · obtain ⟨x, hx⟩ : ∃ x, m[j]? = some x := ⟨_, List.getElem?_eq_getElem hlt⟩
              obtain ⟨g9, rfl, _, _⟩ := hown9.some_ (by omega)
              obtain ⟨g0, g1, g2, g3, g4⟩ := (hown9.below hb (Nat.le_refl _)).inl hx
              obtain ⟨x1, x2⟩ := HINM.out x (List.mem_of_getElem? hx)
              have HK := Lib.hid (show m ++ nodeI kd :: deepT (m.take (j + 1)) = (m ++ nodeI kd :: deepT (m.take j)) ++ [{ x with depth := x.depth + 1 }] by
                rw [List.take_add_one, hx, Option.toList_some, deepT_snoc, List.append_assoc, List.cons_append]
                have : deepI x = { x with depth := x.depth + 1 } := by unfold deepI; rw [wrap_in (by omega) (by omega)]
                rw [this])
              clear hx
              generalize m ++ nodeI kd :: deepT (m.take j) = kl at *
              go_wp2_with (at_builtin; refine wpList_app1 Try.elInls rfl (.tmp 73) (.tmp 75) rfl rfl (by exact (hown.alloc _).alloc _) rfl (Blk.new' _ _ _ _ (by simp)) rfl (by simp [Value.oneCell']) (by simp only [maxLen]; omega) (by omega) (by simp; omega) ?_
                           intro A1' c1' w6 hown6 ho6 hm6)
              go_roundw
              case rel =>
                refine ⟨j + 1, A1', c1', by omega, by go_num, rfl, ?_, hb.trans (ho6.of_alloc.of_alloc.below (fun a ha => (hown.lt ha).1) hbs)⟩
                rw [HK.out, inlCells, List.flatMap_append]
                exact hown6
              case measure => simp [intOf]; omega
            · have hjm : j = m.length := by omega
              subst hjm
              rw [List.take_length] at hown
              have hown9' := hown9.below hb (Nat.le_refl _)
              obtain ⟨hlw1, hlw2⟩ := HLAW.out
              have HL1 := Lib.hid hlw1
              have HL2 := Lib.hid hlw2
              clear hlw1 hlw2 HLAW hown9 hlt hj
              have hkn : (m ++ nodeI kd :: deepT m).length = m.length + 1 + m.length := by simp [deepT]; omega
              have bbF := bb3.trans (hb.mono z3)
              have hz := bbF.size
              by_cases hm0 : m = []
              · subst hm0
                have HE : Hid (ga = ([] ++ nodeI kd :: deepT []) ++ []) := Lib.hid (by rw [HG.out, HL1.out, HL2.out (by simp)]; rfl)
                simp only [List.length_nil, Nat.zero_add] at *
                go_wp2_with fail
                go_quiet (fail)
                go_wp2_with (at_builtin; refine wpList_app Try.elInls rfl (.tmp 117) (.tmp 118) rfl rfl (by exact hown.drewN nq) rfl (hown9'.drewN nq).reads (inl_one _) (by simp only [maxLen]; omega) (by omega) (by simpa using hbs) ?_
                             intro A6 c6 w6 hown6 ho6 hm6)
                have b6 : Below w3.heap.size w3 w6 := (below_drewN' hb nq).trans (ho6.below (fun a ha => (hown.lt ha).1) (by simpa using hbs))
                have hB := bb3.trans (b6.mono z3)
                rw [← List.flatMap_append] at hown6
                go_wp2_with fail
                refine (sameInls_any A8 A6 ga.length _ c8 c6 w6.heap.size ga _ _ ((r8.below b6).more b6.size) hown6.reads (by omega) (by omega)).mono ?_
                rintro e w7 ⟨rfl, mm, rfl⟩
                rw [decide_eq_true HE.out]
                go_wp2_with fail
                go_ret
                exact ⟨rfl, below_drewN' hB mm⟩
              · obtain ⟨q, hq⟩ : ∃ q, m.length = q + 1 := ⟨m.length - 1, by have := List.length_pos_iff.2 hm0; omega⟩
                obtain ⟨f, hf⟩ : ∃ f, m[0]? = some f := ⟨_, List.getElem?_eq_getElem (by omega)⟩
                obtain ⟨u, hu⟩ : ∃ u, m[q]? = some u := ⟨_, List.getElem?_eq_getElem (by omega)⟩
                have hur := HINM.out u (List.mem_of_getElem? hu)
                have hlast : (deepT m).getLast? = some (deepI u) := by
                  unfold deepT; rw [List.getLast?_map, List.getLast?_eq_getElem?, show m.length - 1 = q by omega, hu]; rfl
                have hhead : m.head? = some f := by rw [List.head?_eq_getElem?, hf]
                have hcs : ((f.kind == 1) = false ∧ Hid (ga = (m ++ nodeI kd :: deepT m) ++ m)) ∨ ((f.kind == 1) = true ∧ (u.kind == 1) = false ∧ Hid (ga = (m ++ nodeI kd :: deepT m) ++ m)) ∨
                    ((f.kind == 1) = true ∧ (u.kind == 1) = true ∧ (u.depth + 1 == f.depth) = false ∧ Hid (ga = (m ++ nodeI kd :: deepT m) ++ m)) ∨ ((f.kind == 1) = true ∧ (u.kind == 1) = true ∧ (u.depth + 1 == f.depth) = true) := by
                  have himp : ¬ (f.kind = 1 ∧ u.kind = 1 ∧ u.depth + 1 = f.depth) → Hid (ga = (m ++ nodeI kd :: deepT m) ++ m) := fun hn => Lib.hid (by
                    rw [HG.out, HL1.out, HL2.out, List.append_assoc, List.cons_append]
                    intro x hx t ht hc
                    rw [hhead] at hx
                    rw [hlast] at ht
                    injection hx with hx
                    injection ht with ht
                    subst hx; subst ht
                    rw [deepI_depth hur] at hc
                    exact hn ⟨hc.1, hc.2.1, hc.2.2⟩)
                  by_cases h1 : f.kind = 1
                  · by_cases h2 : u.kind = 1
                    · by_cases h3 : u.depth + 1 = f.depth
                      · exact .inr (.inr (.inr ⟨beq_iff_eq.2 h1, beq_iff_eq.2 h2, beq_iff_eq.2 h3⟩))
                      · exact .inr (.inr (.inl ⟨beq_iff_eq.2 h1, beq_iff_eq.2 h2, beq_eq_false_iff_ne.2 h3, himp fun h => h3 h.2.2⟩))
                    · exact .inr (.inl ⟨beq_iff_eq.2 h1, beq_eq_false_iff_ne.2 h2, himp fun h => h2 h.2.1⟩)
                  · exact .inl ⟨beq_eq_false_iff_ne.2 h1, himp fun h => h1 h.1⟩
                obtain ⟨g9, rfl, _, _⟩ := hown9'.some_ (by omega)
                obtain ⟨f0, f1, f2, f3, f4⟩ := hown9'.inl hf
                rw [Nat.zero_mul] at f0
                rw [Nat.zero_mul, Nat.zero_add] at f1
                obtain ⟨p, hp⟩ : ∃ p, p = q + 1 + 1 + q := ⟨_, rfl⟩
                have hkp : (m ++ nodeI kd :: deepT m)[p]? = some (deepI u) := by
                  rw [List.getElem?_append_right (by omega), show p - m.length = q + 1 by omega, List.getElem?_cons_succ]
                  unfold deepT
                  rw [List.getElem?_map, hu]; rfl
                have hN : m.length + 1 + m.length = p + 1 := by omega
                obtain ⟨g1, rfl, _, _⟩ := hown.some_ (by omega)
                obtain ⟨e0, e1, e2, e3, e4⟩ := hown.inl hkp
                rw [deepI_depth hur] at e1
                rw [show (deepI u).kind = u.kind from rfl] at e0
                have hpb : p ≤ 100 := by omega
                have hqb : 0 < m.length := by omega
                have HQ := Lib.hid hq
                have HEN := Lib.hid hN
                have HKN := Lib.hid hkn
                rw [hN] at hown ⊢
                have hu1 := hur.1
                have hu2 := hur.2
                have s1 : IntKind.i64.wrap ((p : Int) + 1 - 1) = p := IntWalk.i64_in _ (by omega) |>.trans (by omega)
                have s2 : IntKind.i64.wrap (p : Int) = p := IntWalk.i64_in _ (by omega)
                have s3 : decide (0 ≤ (p : Int)) = true := decide_eq_true (by omega)
                have s6 : 0 ≤ (p : Int) := by omega
                have s7 : p < p + 1 := by omega
                have s8 : (p : Int) < (p : Int) + 1 := by omega
                have s9 : (p : Int).toNat = p := by omega
                have s4 : decide ((p : Int) < (p : Int) + 1) = true := decide_eq_true (by omega)
                clear hf hu hlast hhead hkp hN hp hq hm0 hur f2 f3 f4 e2 e3 e4 hkn
                rcases hcs with ⟨c1, HE⟩ | ⟨c1, c2, HE⟩ | ⟨c1, c2, c3, HE⟩ | ⟨c1, c2, c3⟩
                case inr.inr.inr =>
                  go_wp2_with fail
                  go_quiet (fail)
                  go_wp2_with fail
                  go_ret
                  exact ⟨rfl, below_drewN' bbF nq⟩
                all_goals
                  go_wp2_with fail
                  go_quiet (fail)
                  clear s1 s2 s3 s4 s6 s7 s8 s9
                  go_wp2_with (at_builtin; refine wpList_app Try.elInls rfl (.tmp 117) (.tmp 118) rfl rfl (by exact hown.drewN nq) rfl (hown9'.drewN nq).reads (inl_one _) (by simp only [maxLen]; omega) (by omega) (by simpa using hbs) ?_
                               intro A6 c6 w6 hown6 ho6 hm6)
                  have b6 : Below w3.heap.size w3 w6 := (below_drewN' hb nq).trans (ho6.below (fun a ha => (hown.lt ha).1) (by simpa using hbs))
                  have hB := bb3.trans (b6.mono z3)
                  rw [← List.flatMap_append] at hown6
                  go_wp2_with fail
                  refine (sameInls_any A8 A6 ga.length _ c8 c6 w6.heap.size ga _ _ ((r8.below b6).more b6.size) hown6.reads (by omega) (by omega)).mono ?_
                  rintro e w7 ⟨rfl, mm, rfl⟩
                  rw [decide_eq_true HE.out]
                  go_wp2_with fail
                  go_ret
                  exact ⟨rfl, below_drewN' hB mm⟩
end Go.Proofs.Ytlpkfeapgpkkhaa
