/-
  bowdlerlaw4.PolicyBad: its walk: it answers true, and turns nothing that was there.
-/
import Derived.Test.YtofloedgclodnaaDoorPolAlive
namespace Go.Proofs.YtofloedgclodnaaDoor
open Go.RowKit

def bads : List ByteArray := [⟨#[]⟩, ⟨#[35, 32, 110, 111, 116, 104, 105, 110, 103, 10]⟩, ⟨#[108, 101, 118, 101, 108, 32, 97, 10, 108, 101, 118, 101, 108, 32, 97, 10]⟩, ⟨#[108, 101, 118, 101, 108, 32, 97, 10, 97, 32, 60, 32, 98, 10]⟩, ⟨#[108, 101, 118, 101, 108, 32, 97, 10, 97, 32, 60, 32, 97, 10]⟩, ⟨#[108, 101, 118, 101, 108, 32, 65, 10]⟩, ⟨#[108, 101, 118, 101, 108, 32, 97, 32, 98, 10]⟩, ⟨#[108, 101, 118, 101, 108, 32, 32, 97, 10]⟩, ⟨#[32, 108, 101, 118, 101, 108, 32, 97, 10]⟩, ⟨#[108, 101, 118, 101, 108, 32, 97, 10, 97, 60, 97, 10]⟩, ⟨#[108, 101, 118, 101, 108, 32, 97, 10, 108, 101, 118, 101, 108, 32, 98, 10, 97, 32, 62, 32, 98, 10]⟩, ⟨#[108, 101, 118, 101, 108, 32, 97, 10, 108, 101, 118, 101, 108, 32, 98, 10, 97, 32, 60, 32, 98, 32, 10]⟩, ⟨#[97, 32, 60, 32, 98, 10, 108, 101, 118, 101, 108, 32, 97, 10, 108, 101, 118, 101, 108, 32, 98, 10]⟩, ⟨#[108, 101, 118, 101, 108, 32, 97, 98, 99, 100, 101, 102, 103, 104, 105, 106, 107, 108, 109, 110, 111, 112, 113, 114, 115, 116, 117, 10]⟩]
theorem bads_none : ∀ s ∈ bads, parseT s = none ∧ s.size ≤ 100000 := by
  have h : ∀ s ∈ bads, parseC (linesB (S (repT s))) [] [] = none ∧ s.size ≤ 100000 := by decide +kernel
  intro s hs
  rw [parseT_eq]
  exact h s hs
theorem tmod14 (k : Int) : (∃ i : Nat, i < 14 ∧ (k.tmod 14 + 14).tmod 14 = (i : Int)) ∧ -13 ≤ k.tmod 14 ∧ k.tmod 14 ≤ 13 := by
  have h1 := Int.tmod_lt_of_pos k (b := 14) (by omega)
  have h2 := Int.tmod_lt_of_pos (-k) (b := 14) (by omega)
  rw [Int.neg_tmod] at h2
  have h3 := Int.tmod_lt_of_pos (k.tmod 14 + 14) (b := 14) (by omega)
  have h4 := Int.tmod_nonneg (a := k.tmod 14 + 14) (14 : Int) (by omega)
  exact ⟨⟨((k.tmod 14 + 14).tmod 14).toNat, by omega, by omega⟩, by omega, by omega⟩

set_option maxHeartbeats 2000000 in
set_option maxRecDepth 100000 in
theorem policyBad_walk (kk : Int) (w : World) (hg : Glb w) (_ : (Lit.int .i64 kk).wf = true) :
    Calls Tryd.prog 4 #[.int .i64 kk] w fun e w' => e = .returned (.bool true) ∧ Below w.heap.size w w' := by
  obtain ⟨⟨m, hm, hmod⟩, hb1, hb2⟩ := tmod14 kk
  obtain ⟨s, hs⟩ : ∃ s, bads[m]? = some s := ⟨_, List.getElem?_eq_getElem (by simpa [bads] using hm)⟩
  obtain ⟨hnone, hsz⟩ := bads_none s (List.mem_of_getElem? hs)
  have HN := Lib.hid hnone
  have HS := Lib.hid hs
  clear hnone hs
  go_enter Tryd.func4, Tryd.ntmps4
  go_wp2_with fail
  refine (alive4_any _ hg).mono ?_
  rintro e w1 ⟨rfl, b1⟩
  have z1 := b1.size
  go_upto_region 4 with fail
  have cm : (w1.alloc (.cells #[.string ⟨#[]⟩, .string ⟨#[35, 32, 110, 111, 116, 104, 105, 110, 103, 10]⟩, .string ⟨#[108, 101, 118, 101, 108, 32, 97, 10, 108, 101, 118, 101, 108, 32, 97, 10]⟩, .string ⟨#[108, 101, 118, 101, 108, 32, 97, 10, 97, 32, 60, 32, 98, 10]⟩, .string ⟨#[108, 101, 118, 101, 108, 32, 97, 10, 97, 32, 60, 32, 97, 10]⟩, .string ⟨#[108, 101, 118, 101, 108, 32, 65, 10]⟩, .string ⟨#[108, 101, 118, 101, 108, 32, 97, 32, 98, 10]⟩, .string ⟨#[108, 101, 118, 101, 108, 32, 32, 97, 10]⟩, .string ⟨#[32, 108, 101, 118, 101, 108, 32, 97, 10]⟩, .string ⟨#[108, 101, 118, 101, 108, 32, 97, 10, 97, 60, 97, 10]⟩, .string ⟨#[108, 101, 118, 101, 108, 32, 97, 10, 108, 101, 118, 101, 108, 32, 98, 10, 97, 32, 62, 32, 98, 10]⟩, .string ⟨#[108, 101, 118, 101, 108, 32, 97, 10, 108, 101, 118, 101, 108, 32, 98, 10, 97, 32, 60, 32, 98, 32, 10]⟩, .string ⟨#[97, 32, 60, 32, 98, 10, 108, 101, 118, 101, 108, 32, 97, 10, 108, 101, 118, 101, 108, 32, 98, 10]⟩, .string ⟨#[108, 101, 118, 101, 108, 32, 97, 98, 99, 100, 101, 102, 103, 104, 105, 106, 107, 108, 109, 110, 111, 112, 113, 114, 115, 116, 117, 10]⟩] 9)).cell? ⟨w1.heap.size, m, none⟩ = some (.string s) := by
    rw [(Blk.new w1 9 _).cell m]
    have := congrArg (Option.map Value.string) HS.out
    rw [← List.getElem?_map] at this
    simpa [bads] using this
  have b2 : Below w.heap.size w (w1.alloc (.cells #[.string ⟨#[]⟩, .string ⟨#[35, 32, 110, 111, 116, 104, 105, 110, 103, 10]⟩, .string ⟨#[108, 101, 118, 101, 108, 32, 97, 10, 108, 101, 118, 101, 108, 32, 97, 10]⟩, .string ⟨#[108, 101, 118, 101, 108, 32, 97, 10, 97, 32, 60, 32, 98, 10]⟩, .string ⟨#[108, 101, 118, 101, 108, 32, 97, 10, 97, 32, 60, 32, 97, 10]⟩, .string ⟨#[108, 101, 118, 101, 108, 32, 65, 10]⟩, .string ⟨#[108, 101, 118, 101, 108, 32, 97, 32, 98, 10]⟩, .string ⟨#[108, 101, 118, 101, 108, 32, 32, 97, 10]⟩, .string ⟨#[32, 108, 101, 118, 101, 108, 32, 97, 10]⟩, .string ⟨#[108, 101, 118, 101, 108, 32, 97, 10, 97, 60, 97, 10]⟩, .string ⟨#[108, 101, 118, 101, 108, 32, 97, 10, 108, 101, 118, 101, 108, 32, 98, 10, 97, 32, 62, 32, 98, 10]⟩, .string ⟨#[108, 101, 118, 101, 108, 32, 97, 10, 108, 101, 118, 101, 108, 32, 98, 10, 97, 32, 60, 32, 98, 32, 10]⟩, .string ⟨#[97, 32, 60, 32, 98, 10, 108, 101, 118, 101, 108, 32, 97, 10, 108, 101, 118, 101, 108, 32, 98, 10]⟩, .string ⟨#[108, 101, 118, 101, 108, 32, 97, 98, 99, 100, 101, 102, 103, 104, 105, 106, 107, 108, 109, 110, 111, 112, 113, 114, 115, 116, 117, 10]⟩] 9)) := b1.alloc z1 _
  generalize w1.alloc (.cells #[.string ⟨#[]⟩, .string ⟨#[35, 32, 110, 111, 116, 104, 105, 110, 103, 10]⟩, .string ⟨#[108, 101, 118, 101, 108, 32, 97, 10, 108, 101, 118, 101, 108, 32, 97, 10]⟩, .string ⟨#[108, 101, 118, 101, 108, 32, 97, 10, 97, 32, 60, 32, 98, 10]⟩, .string ⟨#[108, 101, 118, 101, 108, 32, 97, 10, 97, 32, 60, 32, 97, 10]⟩, .string ⟨#[108, 101, 118, 101, 108, 32, 65, 10]⟩, .string ⟨#[108, 101, 118, 101, 108, 32, 97, 32, 98, 10]⟩, .string ⟨#[108, 101, 118, 101, 108, 32, 32, 97, 10]⟩, .string ⟨#[32, 108, 101, 118, 101, 108, 32, 97, 10]⟩, .string ⟨#[108, 101, 118, 101, 108, 32, 97, 10, 97, 60, 97, 10]⟩, .string ⟨#[108, 101, 118, 101, 108, 32, 97, 10, 108, 101, 118, 101, 108, 32, 98, 10, 97, 32, 62, 32, 98, 10]⟩, .string ⟨#[108, 101, 118, 101, 108, 32, 97, 10, 108, 101, 118, 101, 108, 32, 98, 10, 97, 32, 60, 32, 98, 32, 10]⟩, .string ⟨#[97, 32, 60, 32, 98, 10, 108, 101, 118, 101, 108, 32, 97, 10, 108, 101, 118, 101, 108, 32, 98, 10]⟩, .string ⟨#[108, 101, 118, 101, 108, 32, 97, 98, 99, 100, 101, 102, 103, 104, 105, 106, 107, 108, 109, 110, 111, 112, 113, 114, 115, 116, 117, 10]⟩] 9) = w2 at *
  have hg2 := hg.below b2
  go_wp2_with fail
  refine (parse_any s _ hg2 hsz).mono ?_
  rintro e w3 ⟨b3, h0, -⟩
  obtain rfl := h0 HN.out
  clear h0
  have b4 := b2.trans (b3.mono b2.size)
  go_wp2_with fail
  go_ret
  exact ⟨rfl, b4.alloc b4.size _⟩
end Go.Proofs.YtofloedgclodnaaDoor
