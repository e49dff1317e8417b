/-
  Plain laws on strings as lists of bytes, and on what a range over a string meets.
-/
import Derived.Lib.SpaceUEq
import Derived.Lib.DecodeN
import Derived.Laws.RangeString
import Derived.Laws.RangeAny
import Derived.Lib.UnsafeStr
import Derived.Lib.Repeat
namespace Go.Proofs.Ytfdfpimilmhhoaa

/-- a string of bytes, and the bytes of a string -/
def S (l : List UInt8) : ByteArray := ⟨l.toArray⟩
def L (s : ByteArray) : List UInt8 := s.data.toList

@[simp] theorem L_S (l : List UInt8) : L (S l) = l := rfl
@[simp] theorem S_L (s : ByteArray) : S (L s) = s := rfl
@[simp] theorem length_L (s : ByteArray) : (L s).length = s.size := rfl
@[simp] theorem size_S (l : List UInt8) : (S l).size = l.length := by simp [S, ByteArray.size]
theorem L_inj {s t : ByteArray} (h : L s = L t) : s = t := by rw [← S_L s, h, S_L]
theorem L_append (s t : ByteArray) : L (s ++ t) = L s ++ L t := by simp [L]
theorem L_extract (s : ByteArray) (a b : Nat) : L (s.extract a b) = ((L s).take b).drop a := by
  simp [L, ByteArray.extract, ByteArray.copySlice, List.drop_take]
theorem append_S (s : ByteArray) (l : List UInt8) : s ++ S l = S (L s ++ l) := L_inj (by rw [L_append, L_S, L_S])
theorem S_append (l : List UInt8) (s : ByteArray) : S l ++ s = S (l ++ L s) := L_inj (by rw [L_append, L_S, L_S])
theorem S_lit (a : Array UInt8) : (⟨a⟩ : ByteArray) = S a.toList := by simp [S]

@[simp] theorem size_lit (a : Array UInt8) : (⟨a⟩ : ByteArray).size = a.size := rfl
theorem L_lit (a : Array UInt8) : L ⟨a⟩ = a.toList := rfl
theorem get_L (s : ByteArray) (i : Nat) (h : i < s.size) : s[i] = (L s)[i]'(by simpa using h) := rfl

theorem repeatL_one (b : UInt8) : ∀ n, Lib.repeatL [b] n = List.replicate n b
  | 0 => rfl
  | n + 1 => by rw [Lib.repeatL, repeatL_one b n]; rfl
theorem decode_rep {n : Nat} {b : UInt8} (hb : b.toNat < 128) (pos : Nat) (h : pos < n) : Utf8.decode (S (List.replicate n b)) pos = (b.toNat, 1) := by
  have hp : pos < (S (List.replicate n b)).size := by simpa using h
  have hg : (S (List.replicate n b))[pos]'hp = b := by rw [get_L]; simp
  rw [decode_ascii _ pos hp (by rw [hg]; exact hb), hg]

/-- what stands at a place: an ASCII byte is its own rune; else all bytes of the rune are above -/
theorem decode_span (s : ByteArray) (pos : Nat) (h : pos < s.size) :
    ((((L s)[pos]'(by simpa using h)).toNat < 128 → Utf8.decode s pos = (((L s)[pos]'(by simpa using h)).toNat, 1)) ∧
     (128 ≤ ((L s)[pos]'(by simpa using h)).toNat → 128 ≤ (Utf8.decode s pos).1)) ∧ 1 ≤ (Utf8.decode s pos).2 ∧ pos + (Utf8.decode s pos).2 ≤ s.size ∧
    ∀ j (hj : j < s.size), pos < j → j < pos + (Utf8.decode s pos).2 → 128 ≤ ((L s)[j]'(by simpa using hj)).toNat := by
  have hc := Lib.decodeN_conts (s.size - pos) (s.get! pos).toNat (s.get! (pos + 1)).toNat (s.get! (pos + 2)).toNat (s.get! (pos + 3)).toNat
  have hw := Lib.decodeN_ge1 (s.size - pos) (s.get! pos).toNat (s.get! (pos + 1)).toNat (s.get! (pos + 2)).toNat (s.get! (pos + 3)).toNat
  rw [← Lib.decode_at] at hc hw
  obtain ⟨c2, c3, c4, c5⟩ := hc
  have hget : ∀ k (hk : k < s.size), s.get! k = (L s)[k]'(by simpa using hk) := fun k hk => by
    simp [ByteArray.get!, getElem!_pos, hk, L]
  refine ⟨⟨fun ha => decode_ascii s pos h (by simpa [get_L] using ha), fun ha => (decode_high s pos h (by simpa [get_L] using ha)).1⟩, hw, by omega, fun j hj h1 h2 => ?_⟩
  have hb := (L s)[j].toNat_lt
  have : j = pos + 1 ∨ j = pos + 2 ∨ j = pos + 3 := by omega
  rcases this with rfl | rfl | rfl
  · have := (c2 (by omega)).1; rw [hget _ hj] at this; omega
  · have := (c3 (by omega)).1; rw [hget _ hj] at this; omega
  · have := (c4 (by omega)).1; rw [hget _ hj] at this; omega
end Go.Proofs.Ytfdfpimilmhhoaa
