/-
  bowdlerlaw14.EmphNone: its walk: it answers true, and turns nothing that was there.
-/
import Derived.Test.YtlpkfeapgpkkhaaEmphKeeps
import Derived.Laws.StructEq
namespace Go.Proofs.Ytlpkfeapgpkkhaa
open Go.RowKit

theorem Try.infoItem : (Try.prog.info? 38).map (fun i => (i.zero, i.size, i.bytes)) = some (some (.agg #[.int .u8 0, .int .i64 0, .bool false, .bool false, .slice none 0 0]), 5, 48) := by kernel_rfl
theorem Try.elItems : Elem Try.prog 22 38 5 48 := Elem.mk' Try.underlying22 Try.infoItem rfl (by decide)
theorem it_one (l : List Pc) : ∀ u ∈ l.flatMap itCells, u.oneCell' = true := by
  intro u hu
  obtain ⟨x, _, hx⟩ := List.mem_flatMap.1 hu
  simp only [itCells, List.mem_cons, List.not_mem_nil, or_false] at hx
  rcases hx with rfl | rfl | rfl | rfl | rfl <;> rfl

/-- the first ones are turned -/
def mixL (f : Pc → Pc) (its : List Pc) (k : Nat) : List Pc := (its.take k).map f ++ its.drop k
theorem mixL_zero (f : Pc → Pc) (its : List Pc) : mixL f its 0 = its := by simp [mixL]
theorem mixL_all (f : Pc → Pc) (its : List Pc) {n : Nat} (h : its.length = n) : mixL f its n = its.map f := by
  subst h; simp [mixL]
theorem mixL_get (f : Pc → Pc) (its : List Pc) {k : Nat} {x : Pc} (hx : its[k]? = some x) : (mixL f its k)[k]? = some x := by
  have hk := (List.getElem?_eq_some_iff.1 hx).1
  unfold mixL
  rw [List.getElem?_append_right (by simp; omega)]
  simp only [List.length_map, List.length_take, Nat.min_eq_left (Nat.le_of_lt hk), Nat.sub_self, List.getElem?_drop, Nat.add_zero]
  exact hx
theorem same_bytes (a b : ByteArray) : (a == b) = true ↔ a = b := by
  rw [beq_toListBytes, beq_iff_eq, ByteArray.toList_eq, ByteArray.toList_eq]
  exact ⟨fun h => L_inj h, fun h => by rw [h]⟩
theorem mixL_at (f : Pc → Pc) (its : List Pc) {k : Nat} {x : Pc} (hx : its[k]? = some x) : (mixL f its (k + 1))[k]? = some (f x) := by
  have hk := (List.getElem?_eq_some_iff.1 hx).1
  unfold mixL
  rw [List.getElem?_append_left (by simp; omega), List.getElem?_map, List.getElem?_take, if_pos (by omega), hx]; rfl
theorem rep_byte (l : List UInt8) (n : Nat) (b : UInt8) : S (l ++ List.replicate n b) ++ S [b] = S (l ++ List.replicate (n + 1) b) := by
  apply L_inj; rw [L_append]; simp [List.replicate_succ']
theorem convert_byte (b : UInt8) (w : World) : (convert 54 9 (.slice (some ⟨w.heap.size, 0, none⟩) 1 1)).run Try.prog (w.alloc (.cells #[.int .u8 (b.toNat : Int)] 5)) = .ok (.string (S [b])) (w.alloc (.cells #[.int .u8 (b.toNat : Int)] 5)) := by
  refine run_convert_bytes_back _ _ _ 5 _ 1 [b] Try.underlying54 Try.underlying5 Try.underlying9 (fun j hj => ?_)
  have : j = 0 := by simpa using hj
  subst this
  exact (Blk.new w 5 #[.int .u8 (b.toNat : Int)]).cell 0
theorem mixL_set (f : Pc → Pc) (its : List Pc) {k : Nat} {x : Pc} (hx : its[k]? = some x) : (mixL f its k).set k (f x) = mixL f its (k + 1) := by
  have hk := (List.getElem?_eq_some_iff.1 hx).1
  have hd : its.drop k = x :: its.drop (k + 1) := by rw [List.drop_eq_getElem_cons hk, (List.getElem?_eq_some_iff.1 hx).2]
  unfold mixL
  rw [hd, List.set_append_right _ _ (by simp; omega)]
  simp only [List.length_map, List.length_take, Nat.min_eq_left (Nat.le_of_lt hk), Nat.sub_self, List.set_cons_zero]
  rw [List.take_add_one, hx]
  simp
theorem mixL_mem {f : Pc → Pc} {its : List Pc} {k : Nat} {p : Pc} (h : p ∈ mixL f its k) : p ∈ its ∨ ∃ q ∈ its, p = f q := by
  rcases List.mem_append.1 h with h | h
  · obtain ⟨q, hq, rfl⟩ := List.mem_map.1 h
    exact .inr ⟨q, List.mem_of_mem_take hq, rfl⟩
  · exact .inl (List.mem_of_mem_drop h)
def clsF (p : Pc) : Pc := { p with cls := false }
def opF (p : Pc) : Pc := { p with opn := false, cls := true }
def wantT (l : List Pc) : List UInt8 := l.flatMap (fun p => List.replicate p.n.toNat p.sign)
theorem wantT_take (l : List Pc) {k : Nat} {x : Pc} (hx : l[k]? = some x) : wantT (l.take (k + 1)) = wantT (l.take k) ++ List.replicate x.n.toNat x.sign := by
  rw [List.take_add_one, hx]; simp [wantT]
theorem wantT_len {l : List Pc} (h : ∀ p ∈ l, RowOk p) : (wantT l).length ≤ 20 * l.length := by
  induction l with
  | nil => simp [wantT]
  | cons p l ih =>
    have := ih fun q hq => h q (by simp [hq])
    have := (h p (by simp)).2
    simp only [wantT, List.flatMap_cons, List.length_append, List.length_replicate, List.length_cons] at *
    omega

/-- rows alone are words -/
theorem rows_words {its : List Pc} (h : ∀ p ∈ its, p.sign ≠ 0 ∧ p.left = max p.n 0) : (∀ x ∈ its.flatMap pcNodes, x = wordI (L x.text)) ∧ textT (its.flatMap pcNodes) = wantT its := by
  induction its with
  | nil => exact ⟨by simp, rfl⟩
  | cons p its ih =>
    obtain ⟨i1, i2⟩ := ih fun q hq => h q (by simp [hq])
    obtain ⟨p1, p2⟩ := h p (by simp)
    have e := pcNodes_row p1
    have e3 : textT (p :: its |>.flatMap pcNodes) = textT (pcNodes p) ++ textT (its.flatMap pcNodes) := by simp [textT]
    refine ⟨fun x hx => ?_, ?_⟩
    · rw [List.flatMap_cons] at hx
      rcases List.mem_append.1 hx with hx | hx
      · rw [e] at hx
        split at hx
        · simp at hx; subst hx; rfl
        · simp at hx
      · exact i1 x hx
    · rw [e3, i2, e]
      have e4 : wantT (p :: its) = List.replicate p.n.toNat p.sign ++ wantT its := by simp [wantT]
      rw [e4]
      congr 1
      split
      · simp only [textT, List.flatMap_singleton, textB, true_or, if_true, pcText, L_S]
        congr 1; omega
      · have : p.n.toNat = 0 := by omega
        rw [this]; rfl
theorem group_rows {its : List Pc} (h : ∀ p ∈ its, p.sign ≠ 0 ∧ p.left = max p.n 0) (hc : (∀ p ∈ its, p.cls = false) ∨ ∀ p ∈ its, p.opn = false) : groupT its = if wantT its = [] then [] else [wordI (wantT its)] := by
  obtain ⟨h1, h2⟩ := rows_words h
  rw [group_none hc, merge_words h1, h2]
theorem want_cls (its : List Pc) : wantT (its.map clsF) = wantT its := by simp only [wantT, List.flatMap_map]; rfl
theorem want_op (its : List Pc) : wantT (its.map opF) = wantT its := by simp only [wantT, List.flatMap_map]; rfl

set_option maxHeartbeats 8000000 in
set_option maxRecDepth 100000 in
theorem emphNone_walk (A : Option Addr) (n c : Nat) (its : List Pc) (w : World) (hw : Reads w w.heap.size 5 A n (its.flatMap itCells) ∧ ∀ x ∈ its, itemFit w x) :
    Calls Try.prog 6 #[.slice A n c] w fun e w' => e = .returned (.bool true) ∧ Below w.heap.size w w' := by
  obtain ⟨hr, hfit⟩ := hw
  have hlen : its.length = n := by have := hr.1; rw [items_length] at this; omega
  have HL := Lib.hid hlen
  have HF := Lib.hid hfit
  clear hlen hfit
  by_cases hbig : 20 < n
  · go_enter Try.func6, Try.ntmps6
    go_wp2_with fail
    refine (alive_any _).mono ?_
    rintro e w1 ⟨rfl, b1⟩
    go_wp2_with fail
    go_ret
    exact ⟨rfl, b1⟩
  · go_enter Try.func6, Try.ntmps6
    go_wp2_with fail
    refine (alive_any _).mono ?_
    rintro e w1 ⟨rfl, b1⟩
    have z1 := b1.size
    have hn0 : Own w1 w.heap.size 38 5 none 0 0 [] := Own.nil _ _ _ _
    have hsrc := hr.below b1
    go_wp2_with (at_builtin; refine wpList_app Try.elItems rfl (.const (.slice none 0 0)) (.tmp 18) rfl rfl hn0 rfl hsrc (it_one _) (by simp only [maxLen]; omega) (by omega) z1 ?_; intro A1 c1 w2 hown ho hm)
    rw [Nat.zero_add, List.nil_append] at hown
    have bb2 : Below w.heap.size w w2 := b1.trans (ho.below (fun a ha => by cases ha) z1)
    clear hm ho hn0 hsrc b1 z1
    go_wp2_with fail
    go_loopw [3, 22] (fun s3 i wr => ∃ k : Nat, k ≤ n ∧ i = .int .i64 k ∧ s3 = .string (S (wantT (its.take k))) ∧ Own wr w.heap.size 38 5 A1 n c1 ((mixL clsF its k).flatMap itCells) ∧ (∀ p ∈ its.take k, RowOk p) ∧ Below w.heap.size w wr) (fun _ i _ => n - (intOf i).toNat)
    case atStart => exact ⟨0, Nat.zero_le _, rfl, rfl, by rw [mixL_zero]; exact hown, by simp, bb2⟩
    case round =>
      clear hown bb2
      obtain ⟨k, hk, rfl, rfl, hown, hok, hb⟩ := hrel
      have HOK := Lib.hid hok
      clear hok
      have hbs := hb.size
      by_cases hlt : k < n
      · obtain ⟨x, hx⟩ : ∃ x, its[k]? = some x := ⟨_, List.getElem?_eq_getElem (by rw [HL.out]; omega)⟩
        obtain ⟨g, rfl, hgb, _⟩ := hown.some_ (by omega)
        have hmx := mixL_get clsF its hx
        have tt := fun q (hq : q < 5) => flat_get itCells 5 it_len (mixL clsF its k) k q hq hmx
        have t0 := hown.cell (j := k * 5) (u := .int .u8 (x.sign.toNat : Int)) (by have := tt 0 (by omega); rw [Nat.add_zero] at this; rw [this]; rfl)
        have t1 := hown.cell (j := k * 5 + 1) (u := .int .i64 x.n) (by rw [tt 1 (by omega)]; rfl)
        have t3 := hown.cell (j := k * 5 + 3) (u := .bool x.cls) (by rw [tt 3 (by omega)]; rfl)
        clear tt
        by_cases hs : x.sign = 42 ∨ x.sign = 95
        · by_cases hn : 0 ≤ x.n ∧ x.n ≤ 20
          · have HOK2 := Lib.hid (all_take HOK.out hx ⟨hs, hn⟩)
            have hwl : (wantT (its.take k)).length ≤ 400 := by
              have := wantT_len HOK.out
              have h2 := List.length_take_le k its
              omega
            have f3 := hown.frozen (k * 5 + 3)
            have hmx2 := mixL_at clsF its hx
            have hown2 := hown.stored (k * 5 + 3) (.bool false)
            rw [flat_set itCells 5 it_len _ k 3 (by omega) hmx (x' := clsF x) (v := .bool false) rfl, mixL_set clsF its hx] at hown2
            have hb2 := hb.setCell (p := ⟨g, k * 5 + 3, none⟩) hgb (.bool false)
            have HWS := Lib.hid (wantT_take its hx)
            have HT2 := Lib.hid (show (its.take (k + 1))[k]? = some x by rw [List.getElem?_take, if_pos (by omega), hx])
            clear hx hmx
            obtain ⟨n1, n2⟩ := hn
            obtain ⟨N, hN⟩ := Int.eq_ofNat_of_zero_le n1
            rw [hN] at t1 n2
            have HN := Lib.hid (show x.n.toNat = N by omega)
            clear hN n1
            generalize wantT (its.take k) = kw at *
            obtain ⟨sg, hsg⟩ : ∃ sg, x.sign = sg := ⟨_, rfl⟩
            have HSG := Lib.hid hsg
            rw [hsg] at hs t0
            clear hsg
            have q0 : (((sg.toNat : Int) != 42) = false) ∨ ((((sg.toNat : Int) != 42) = true) ∧ ((sg.toNat : Int) != 95) = false) := by
              rcases hs with rfl | rfl
              · exact .inl rfl
              · exact .inr ⟨rfl, rfl⟩
            clear hs
            have tt := fun q (hq : q < 5) => flat_get itCells 5 it_len (mixL clsF its (k + 1)) k q hq hmx2
            have HT := Lib.hid tt
            clear tt hmx2
            rcases q0 with q0 | ⟨q0, q0'⟩
            all_goals
              go_wp2_with fail
              have hbs2 := hb2.size
              clear hown t0 t1 t3 f3 hb
              generalize wr.setCell ⟨g, k * 5 + 3, none⟩ (.bool false) = wk at *
              go_loopw [3, 6] (fun s3 i wq => ∃ j : Nat, j ≤ N ∧ i = .int .i64 j ∧ s3 = .string (S (kw ++ List.replicate j sg)) ∧ Below wk.heap.size wk wq) (fun _ i _ => N - (intOf i).toNat)
              case atStart => exact ⟨0, Nat.zero_le _, rfl, by simp, Below.refl _ _⟩
              case round =>
                obtain ⟨j, hj, rfl, rfl, hbq⟩ := hrel
                have hown3 := hown2.below hbq (Nat.le_refl _)
                have t0 := hown3.cell (j := k * 5) (u := .int .u8 (sg.toNat : Int)) ((HT.out 0 (by omega)).trans (by rw [← HSG.out]; rfl))
                have t1 := hown3.cell (j := k * 5 + 1) (u := .int .i64 N) (by rw [HT.out 1 (by omega)]; exact congrArg (fun z => some (Value.int .i64 z)) (show x.n = N by have := HN.out; have := HOK2.out x (List.mem_of_getElem? (HT2.out)); unfold RowOk at this; omega))
                by_cases hjn : j < N
                · have hcv := convert_byte sg wr
                  have HR := Lib.hid (rep_byte kw j sg)
                  have hsz : (S (kw ++ List.replicate j sg)).size ≤ 500 := by simp; omega
                  generalize S (kw ++ List.replicate j sg) = xs at *
                  go_wp2_with fail
                  go_roundw
                  case rel => exact ⟨j + 1, by omega, by go_num, by rw [← HR.out], hbq.alloc hbq.size _⟩
                  case measure => simp [intOf]; omega
                · have hjn' : j = N := by omega
                  subst hjn'
                  have HE := Lib.hid (show wantT (its.take (k + 1)) = kw ++ List.replicate j sg by rw [HWS.out, HN.out, HSG.out])
                  have hb3 := hb2.trans (hbq.mono hbs2)
                  clear t0
                  go_wp2_with fail
                  go_roundw
                  case rel => exact ⟨k + 1, by omega, by go_num, by rw [HE.out], hown3, HOK2.out, hb3⟩
                  case measure => simp [intOf]; omega
          · have hs' : x.sign.toNat = 42 ∨ x.sign.toNat = 95 := by rcases hs with hs | hs <;> rw [hs] <;> simp
            have hn' : x.n < 0 ∨ (0 ≤ x.n ∧ 20 < x.n) := by omega
            clear hn hx hmx
            rcases hs with hs | hs
            all_goals
              rw [hs] at t0
              clear hs
              rcases hn' with hn' | hn'
              all_goals
                go_wp2_with fail
                go_ret
                exact ⟨rfl, hb⟩
        · simp only [not_or] at hs
          have q1 : ((x.sign.toNat : Int) != 42) = true := by rw [bne_iff_ne]; intro h; exact hs.1 (UInt8.toNat_inj.1 (by simp; omega))
          have q2 : ((x.sign.toNat : Int) != 95) = true := by rw [bne_iff_ne]; intro h; exact hs.2 (UInt8.toNat_inj.1 (by simp; omega))
          clear hs hx hmx
          go_wp2_with fail
          go_ret
          exact ⟨rfl, hb⟩
      · have hkn : k = n := by omega
        subst hkn
        have hta : its.take k = its := List.take_of_length_le (by rw [HL.out]; omega)
        have hok := HOK.out
        rw [hta] at hok ⊢
        rw [mixL_all clsF its HL.out] at hown
        clear HOK hta
        have hf1 : ∀ p ∈ its.map clsF, RowOk p ∧ p.left = max p.n 0 ∧ p.shut = false ∧ Reads w w.heap.size 5 p.A p.ln (inlCells p.l) ∧ p.cls = false := by
          intro p hp
          obtain ⟨q, hq, rfl⟩ := List.mem_map.1 hp
          exact ⟨hok q hq, (HF.out q hq).2.1, (HF.out q hq).2.2.1, (HF.out q hq).2.2.2.1, rfl⟩
        have hf2 : ∀ p ∈ (its.map clsF).map opF, RowOk p ∧ p.left = max p.n 0 ∧ p.shut = false ∧ Reads w w.heap.size 5 p.A p.ln (inlCells p.l) ∧ p.opn = false := by
          intro p hp
          obtain ⟨q, hq, rfl⟩ := List.mem_map.1 hp
          exact ⟨(hf1 q hq).1, (hf1 q hq).2.1, (hf1 q hq).2.2.1, (hf1 q hq).2.2.2.1, rfl⟩
        have hl1 : (its.map clsF).length = k := by rw [List.length_map, HL.out]
        have hl2 : ((its.map clsF).map opF).length = k := by rw [List.length_map, hl1]
        have hg1 := (rows_ginv (fun p hp => (hf1 p hp).1) (fun p hp => (hf1 p hp).2.1) (by rw [hl1]; omega)).1
        have hg2 := (rows_ginv (fun p hp => (hf2 p hp).1) (fun p hp => (hf2 p hp).2.1) (by rw [hl2]; omega)).1
        have e1 : groupT (its.map clsF) = if wantT its = [] then [] else [wordI (wantT its)] := by
          rw [group_rows (fun p hp => ⟨rowOk_sign (hf1 p hp).1, (hf1 p hp).2.1⟩) (.inl fun p hp => (hf1 p hp).2.2.2.2), want_cls]
        have e2 : groupT ((its.map clsF).map opF) = if wantT its = [] then [] else [wordI (wantT its)] := by
          rw [group_rows (fun p hp => ⟨rowOk_sign (hf2 p hp).1, (hf2 p hp).2.1⟩) (.inr fun p hp => (hf2 p hp).2.2.2.2), want_op, want_cls]
        obtain ⟨ws, hws⟩ : ∃ ws, S (wantT its) = ws := ⟨_, rfl⟩
        obtain ⟨R, hR⟩ : ∃ R : List Inl, (if wantT its = [] then [] else [wordI (wantT its)]) = R := ⟨_, rfl⟩
        have hRR : (ws = ⟨#[]⟩ ∧ R = []) ∨ (((ws == ⟨#[]⟩) = false ∧ ¬ ws.toList = [] ∧ ws.toList.isEmpty = false) ∧ R = [⟨1, 0, ws, ⟨#[]⟩, ⟨#[]⟩⟩]) := by
          by_cases hw0 : wantT its = []
          · rw [if_pos hw0] at hR
            rw [hw0] at hws
            exact .inl ⟨hws.symm, hR.symm⟩
          · rw [if_neg hw0] at hR
            have hne : ¬ ws = ⟨#[]⟩ := fun e => hw0 ((congrArg L (hws.trans e)).trans rfl)
            have hnl : ¬ ws.toList = [] := fun e => hne (by rw [ByteArray.toList_eq] at e; exact L_inj e)
            exact .inr ⟨⟨Bool.eq_false_iff.2 fun e => hne ((same_bytes _ _).1 e), hnl, by simpa using hnl⟩, by rw [← hR, ← hws]; rfl⟩
        rw [hR] at e1 e2
        rw [hws]
        have HFA := Lib.hid hf1
        have HFB := Lib.hid hf2
        have HG1 := Lib.hid hg1
        have HG2 := Lib.hid hg2
        have HE1 := Lib.hid e1
        have HE2 := Lib.hid e2
        have HRR := Lib.hid hRR
        have HL1 := Lib.hid hl1
        clear hf1 hf2 hg1 hg2 e1 e2 hRR hl1 hl2 hws hR hok
        generalize its.map clsF = its1 at *
        go_wp2_with fail
        refine (group_any A1 k c1 its1 _ hown.reads (fun p hp => ((HFA.out p hp).2.2.2.1.below hb).more hbs) (fun p hp => ⟨(HFA.out p hp).2.1, (HFA.out p hp).2.2.1⟩) HG1.out).mono ?_
        rintro e w3 ⟨A3, c3, rfl, hown3, b3⟩
        have hownI := hown.below b3 (Nat.le_refl _)
        have bb3 := hb.trans (b3.mono hbs)
        have hown3' := hown3.base_le hbs
        rw [HE1.out] at hown3' ⊢
        clear hown b3 hb hown3 hbs
        go_wp2_with fail
        go_loopw [82] (fun i wr => ∃ j : Nat, j ≤ k ∧ i = .int .i64 j ∧ Own wr w.heap.size 38 5 A1 k c1 ((mixL opF its1 j).flatMap itCells) ∧ Own wr w.heap.size 51 5 A3 R.length c3 (inlCells R) ∧ Below w.heap.size w wr) (fun i _ => k - (intOf i).toNat)
        case atStart => exact ⟨0, Nat.zero_le _, rfl, by rw [mixL_zero]; exact hownI, hown3', bb3⟩
        case round =>
          clear hownI hown3' bb3
          obtain ⟨j, hj, rfl, hownI, hownR, hb⟩ := hrel
          have hbs := hb.size
          by_cases hlt2 : j < k
          · obtain ⟨x, hx⟩ : ∃ x, its1[j]? = some x := ⟨_, List.getElem?_eq_getElem (by rw [HL1.out]; omega)⟩
            obtain ⟨g, rfl, hgb, _⟩ := hownI.some_ (by omega)
            have hmx := mixL_get opF its1 hx
            have tt := fun q (hq : q < 5) => flat_get itCells 5 it_len (mixL opF its1 j) j q hq hmx
            have t2 := hownI.cell (j := j * 5 + 2) (u := .bool x.opn) (by rw [tt 2 (by omega)]; rfl)
            have t3 := hownI.cell (j := j * 5 + 3) (u := .bool x.cls) (by rw [tt 3 (by omega)]; rfl)
            clear tt
            have f2 := hownI.frozen (j * 5 + 2)
            have f3 := hownI.frozen (j * 5 + 3)
            have hml : j < (mixL opF its1 j).length := (List.getElem?_eq_some_iff.1 hmx).1
            have hownB := hownI.stored (j * 5 + 2) (.bool false)
            have hownR2 := hownR.only (only_setCell wr g (j * 5 + 2) (.bool false)) (hownR.sep_ne hownI (by decide))
            rw [flat_set itCells 5 it_len _ j 2 (by omega) hmx (x' := { x with opn := false }) (v := .bool false) rfl] at hownB
            have hmx2 : ((mixL opF its1 j).set j { x with opn := false })[j]? = some { x with opn := false } := List.getElem?_set_self hml
            have f3b := hownB.frozen (j * 5 + 3)
            have hownC := hownB.stored (j * 5 + 3) (.bool true)
            have hownR3 := hownR2.only (only_setCell _ g (j * 5 + 3) (.bool true)) (hownR2.sep_ne hownB (by decide))
            rw [flat_set itCells 5 it_len _ j 3 (by omega) hmx2 (x' := opF x) (v := .bool true) rfl, List.set_set, mixL_set opF its1 hx] at hownC
            have hb2 := (hb.setCell (p := ⟨g, j * 5 + 2, none⟩) hgb (.bool false)).setCell (p := ⟨g, j * 5 + 3, none⟩) hgb (.bool true)
            clear hx hmx hmx2 hownI hownR hownB hownR2 hb hml
            go_wp2_with fail
            go_roundw
            case rel => exact ⟨j + 1, by omega, by go_num, hownC, hownR3, hb2⟩
            case measure => simp [intOf]; omega
          · have hjk : j = k := by omega
            subst hjk
            rw [mixL_all opF its1 HL1.out] at hownI
            generalize its1.map opF = its2 at *
            go_wp2_with fail
            refine (group_any A1 j c1 its2 _ hownI.reads (fun p hp => ((HFB.out p hp).2.2.2.1.below hb).more hbs) (fun p hp => ⟨(HFB.out p hp).2.1, (HFB.out p hp).2.2.1⟩) HG2.out).mono ?_
            rintro e w4 ⟨A4, c4, rfl, hown4, b4⟩
            have hownR' := hownR.below b4 (Nat.le_refl _)
            have bb4 := hb.trans (b4.mono hbs)
            rw [HE2.out] at hown4 ⊢
            clear hownI hownR b4 hb
            obtain ⟨q1, q2⟩ | ⟨q1, q2⟩ := HRR.out
            · subst q1; subst q2
              simp only [List.length_nil] at *
              clear hown4 hownR'
              go_wp2_with fail
              go_ret
              exact ⟨rfl, bb4⟩
            · obtain ⟨qa, qb, qc⟩ := q1
              subst q2
              obtain ⟨g3, rfl, _, _⟩ := hownR'.some_ (by simp)
              obtain ⟨g4, rfl, _, _⟩ := hown4.some_ (by simp)
              have x0 := hownR'.cell (j := 0) rfl
              have x1 := hownR'.cell (j := 1) rfl
              have x2 := hownR'.cell (j := 2) rfl
              have x3 := hownR'.cell (j := 3) rfl
              have x4 := hownR'.cell (j := 4) rfl
              have y0 := hown4.cell (j := 0) rfl
              have y1 := hown4.cell (j := 1) rfl
              have y2 := hown4.cell (j := 2) rfl
              have y3 := hown4.cell (j := 3) rfl
              have y4 := hown4.cell (j := 4) rfl
              simp only [List.length_cons, List.length_nil, Nat.zero_add] at *
              clear hown4 hownR'
              go_wp2_with fail
              go_quiet (fail)
              go_wp2_with fail
              go_ret
              exact ⟨rfl, below_drewN' bb4 _⟩
end Go.Proofs.Ytlpkfeapgpkkhaa
