/- An inode's cells and its bytes: plain laws. -/
import Derived.Test.YtgcbjeemkifonaaSlbNum
set_option linter.unusedVariables false
namespace Go.Proofs.Ytgcbjeemkifonaa.Pe
set_option maxRecDepth 10000
set_option maxHeartbeats 4000000
structure Nd where
  k : Int
  l : Int
  z : Int
  b : Int
  d0 : Int
  d1 : Int
  d2 : Int
  d3 : Int
  d4 : Int
  d5 : Int
  d6 : Int
  d7 : Int
  d8 : Int
  d9 : Int
  s : Int
  e : Int
  deriving DecidableEq
/-- An inode's cells. -/
abbrev Nd.cs (n : Nd) : List C := [.i .u16 n.k, .i .u16 n.l, .i .u32 n.z, .i .u32 n.b, .i .u32 n.d0, .i .u32 n.d1, .i .u32 n.d2, .i .u32 n.d3, .i .u32 n.d4, .i .u32 n.d5, .i .u32 n.d6, .i .u32 n.d7, .i .u32 n.d8, .i .u32 n.d9, .i .u32 n.s, .i .u32 n.e]
/-- Its numbers are of their kinds. -/
structure Nd.Ok (n : Nd) : Prop where
  hk : 0 ≤ n.k ∧ n.k ≤ 65535
  hl : 0 ≤ n.l ∧ n.l ≤ 65535
  hz : 0 ≤ n.z ∧ n.z ≤ 4294967295
  hb : 0 ≤ n.b ∧ n.b ≤ 4294967295
  hd0 : 0 ≤ n.d0 ∧ n.d0 ≤ 4294967295
  hd1 : 0 ≤ n.d1 ∧ n.d1 ≤ 4294967295
  hd2 : 0 ≤ n.d2 ∧ n.d2 ≤ 4294967295
  hd3 : 0 ≤ n.d3 ∧ n.d3 ≤ 4294967295
  hd4 : 0 ≤ n.d4 ∧ n.d4 ≤ 4294967295
  hd5 : 0 ≤ n.d5 ∧ n.d5 ≤ 4294967295
  hd6 : 0 ≤ n.d6 ∧ n.d6 ≤ 4294967295
  hd7 : 0 ≤ n.d7 ∧ n.d7 ≤ 4294967295
  hd8 : 0 ≤ n.d8 ∧ n.d8 ≤ 4294967295
  hd9 : 0 ≤ n.d9 ∧ n.d9 ≤ 4294967295
  hs : 0 ≤ n.s ∧ n.s ≤ 4294967295
  he : 0 ≤ n.e ∧ n.e ≤ 4294967295
def Nd.ds (n : Nd) : List Int := [n.d0, n.d1, n.d2, n.d3, n.d4, n.d5, n.d6, n.d7, n.d8, n.d9]
def Nd.d (n : Nd) (i : Nat) : Int := n.ds.getD i 0
theorem Nd.d_ok {n : Nd} (h : n.Ok) {i : Nat} (hi : i < 10) : 0 ≤ n.d i ∧ n.d i ≤ 4294967295 := by
  match i, hi with
  | 0, _ => exact h.hd0
  | 1, _ => exact h.hd1
  | 2, _ => exact h.hd2
  | 3, _ => exact h.hd3
  | 4, _ => exact h.hd4
  | 5, _ => exact h.hd5
  | 6, _ => exact h.hd6
  | 7, _ => exact h.hd7
  | 8, _ => exact h.hd8
  | 9, _ => exact h.hd9
def Nd.ofs (k l z b : Int) (ds : List Int) (s e : Int) : Nd := ⟨k, l, z, b, ds.getD 0 0, ds.getD 1 0, ds.getD 2 0, ds.getD 3 0, ds.getD 4 0, ds.getD 5 0, ds.getD 6 0, ds.getD 7 0, ds.getD 8 0, ds.getD 9 0, s, e⟩
/-- Its bytes. -/
def encB (n : Nd) : List UInt8 := [lo8 n.k, lo8 (n.k / 256), lo8 n.l, lo8 (n.l / 256), lo8 n.z, lo8 (n.z / 256), lo8 (n.z / 65536), lo8 (n.z / 16777216), lo8 n.b, lo8 (n.b / 256), lo8 (n.b / 65536), lo8 (n.b / 16777216), lo8 n.d0, lo8 (n.d0 / 256), lo8 (n.d0 / 65536), lo8 (n.d0 / 16777216), lo8 n.d1, lo8 (n.d1 / 256), lo8 (n.d1 / 65536), lo8 (n.d1 / 16777216), lo8 n.d2, lo8 (n.d2 / 256), lo8 (n.d2 / 65536), lo8 (n.d2 / 16777216), lo8 n.d3, lo8 (n.d3 / 256), lo8 (n.d3 / 65536), lo8 (n.d3 / 16777216), lo8 n.d4, lo8 (n.d4 / 256), lo8 (n.d4 / 65536), lo8 (n.d4 / 16777216), lo8 n.d5, lo8 (n.d5 / 256), lo8 (n.d5 / 65536), lo8 (n.d5 / 16777216), lo8 n.d6, lo8 (n.d6 / 256), lo8 (n.d6 / 65536), lo8 (n.d6 / 16777216), lo8 n.d7, lo8 (n.d7 / 256), lo8 (n.d7 / 65536), lo8 (n.d7 / 16777216), lo8 n.d8, lo8 (n.d8 / 256), lo8 (n.d8 / 65536), lo8 (n.d8 / 16777216), lo8 n.d9, lo8 (n.d9 / 256), lo8 (n.d9 / 65536), lo8 (n.d9 / 16777216), lo8 n.s, lo8 (n.s / 256), lo8 (n.s / 65536), lo8 (n.s / 16777216), lo8 n.e, lo8 (n.e / 256), lo8 (n.e / 65536), lo8 (n.e / 16777216), 0, 0, 0, 0]
/-- The inode that bytes say. -/
def decN (p : List UInt8) : Nd := ⟨num16 p 0, num16 p 2, num32 p 4, num32 p 8, num32 p 12, num32 p 16, num32 p 20, num32 p 24, num32 p 28, num32 p 32, num32 p 36, num32 p 40, num32 p 44, num32 p 48, num32 p 52, num32 p 56⟩
theorem lo8_16 {v : Int} (h0 : 0 ≤ v) (h1 : v ≤ 65535) : ((lo8 v).toNat : Int) + 256 * (lo8 (v / 256)).toNat = v := by
  rw [lo8_nat, lo8_nat]; omega
theorem lo8_32 {v : Int} (h0 : 0 ≤ v) (h1 : v ≤ 4294967295) : ((lo8 v).toNat : Int) + 256 * (lo8 (v / 256)).toNat + 65536 * (lo8 (v / 65536)).toNat + 16777216 * (lo8 (v / 16777216)).toNat = v := by
  rw [lo8_nat, lo8_nat, lo8_nat, lo8_nat]; omega
theorem dec_enc {n : Nd} (h : n.Ok) : decN (encB n) = n := by
  have e : decN (encB n) = (⟨((lo8 n.k).toNat : Int) + 256 * (lo8 (n.k / 256)).toNat, ((lo8 n.l).toNat : Int) + 256 * (lo8 (n.l / 256)).toNat, ((lo8 n.z).toNat : Int) + 256 * (lo8 (n.z / 256)).toNat + 65536 * (lo8 (n.z / 65536)).toNat + 16777216 * (lo8 (n.z / 16777216)).toNat, ((lo8 n.b).toNat : Int) + 256 * (lo8 (n.b / 256)).toNat + 65536 * (lo8 (n.b / 65536)).toNat + 16777216 * (lo8 (n.b / 16777216)).toNat, ((lo8 n.d0).toNat : Int) + 256 * (lo8 (n.d0 / 256)).toNat + 65536 * (lo8 (n.d0 / 65536)).toNat + 16777216 * (lo8 (n.d0 / 16777216)).toNat, ((lo8 n.d1).toNat : Int) + 256 * (lo8 (n.d1 / 256)).toNat + 65536 * (lo8 (n.d1 / 65536)).toNat + 16777216 * (lo8 (n.d1 / 16777216)).toNat, ((lo8 n.d2).toNat : Int) + 256 * (lo8 (n.d2 / 256)).toNat + 65536 * (lo8 (n.d2 / 65536)).toNat + 16777216 * (lo8 (n.d2 / 16777216)).toNat, ((lo8 n.d3).toNat : Int) + 256 * (lo8 (n.d3 / 256)).toNat + 65536 * (lo8 (n.d3 / 65536)).toNat + 16777216 * (lo8 (n.d3 / 16777216)).toNat, ((lo8 n.d4).toNat : Int) + 256 * (lo8 (n.d4 / 256)).toNat + 65536 * (lo8 (n.d4 / 65536)).toNat + 16777216 * (lo8 (n.d4 / 16777216)).toNat, ((lo8 n.d5).toNat : Int) + 256 * (lo8 (n.d5 / 256)).toNat + 65536 * (lo8 (n.d5 / 65536)).toNat + 16777216 * (lo8 (n.d5 / 16777216)).toNat, ((lo8 n.d6).toNat : Int) + 256 * (lo8 (n.d6 / 256)).toNat + 65536 * (lo8 (n.d6 / 65536)).toNat + 16777216 * (lo8 (n.d6 / 16777216)).toNat, ((lo8 n.d7).toNat : Int) + 256 * (lo8 (n.d7 / 256)).toNat + 65536 * (lo8 (n.d7 / 65536)).toNat + 16777216 * (lo8 (n.d7 / 16777216)).toNat, ((lo8 n.d8).toNat : Int) + 256 * (lo8 (n.d8 / 256)).toNat + 65536 * (lo8 (n.d8 / 65536)).toNat + 16777216 * (lo8 (n.d8 / 16777216)).toNat, ((lo8 n.d9).toNat : Int) + 256 * (lo8 (n.d9 / 256)).toNat + 65536 * (lo8 (n.d9 / 65536)).toNat + 16777216 * (lo8 (n.d9 / 16777216)).toNat, ((lo8 n.s).toNat : Int) + 256 * (lo8 (n.s / 256)).toNat + 65536 * (lo8 (n.s / 65536)).toNat + 16777216 * (lo8 (n.s / 16777216)).toNat, ((lo8 n.e).toNat : Int) + 256 * (lo8 (n.e / 256)).toNat + 65536 * (lo8 (n.e / 65536)).toNat + 16777216 * (lo8 (n.e / 16777216)).toNat⟩ : Nd) := rfl
  rw [e, lo8_16 h.hk.1 h.hk.2, lo8_16 h.hl.1 h.hl.2, lo8_32 h.hz.1 h.hz.2, lo8_32 h.hb.1 h.hb.2, lo8_32 h.hd0.1 h.hd0.2, lo8_32 h.hd1.1 h.hd1.2, lo8_32 h.hd2.1 h.hd2.2, lo8_32 h.hd3.1 h.hd3.2, lo8_32 h.hd4.1 h.hd4.2, lo8_32 h.hd5.1 h.hd5.2, lo8_32 h.hd6.1 h.hd6.2, lo8_32 h.hd7.1 h.hd7.2, lo8_32 h.hd8.1 h.hd8.2, lo8_32 h.hd9.1 h.hd9.2, lo8_32 h.hs.1 h.hs.2, lo8_32 h.he.1 h.he.2]
theorem u8_of {a b : UInt8} (h : (a.toNat : Int) = b.toNat) : a = b := UInt8.toNat_inj.1 (by omega)
theorem b16 (p : List UInt8) (i : Nat) : lo8 (num16 p i) = p.getD i 0 ∧ lo8 (num16 p i / 256) = p.getD (i + 1) 0 := by
  have h0 := (p.getD i 0).toNat_lt
  have h1 := (p.getD (i + 1) 0).toNat_lt
  refine ⟨u8_of ?_, u8_of ?_⟩ <;> (rw [lo8_nat]; unfold num16; omega)
theorem b32 (p : List UInt8) (i : Nat) : lo8 (num32 p i) = p.getD i 0 ∧ lo8 (num32 p i / 256) = p.getD (i + 1) 0 ∧ lo8 (num32 p i / 65536) = p.getD (i + 2) 0 ∧ lo8 (num32 p i / 16777216) = p.getD (i + 3) 0 := by
  have h0 := (p.getD i 0).toNat_lt
  have h1 := (p.getD (i + 1) 0).toNat_lt
  have h2 := (p.getD (i + 2) 0).toNat_lt
  have h3 := (p.getD (i + 3) 0).toNat_lt
  refine ⟨u8_of ?_, u8_of ?_, u8_of ?_, u8_of ?_⟩ <;> (rw [lo8_nat]; unfold num32; omega)
theorem list_of (n : Nat) (p : List UInt8) (h : p.length = n) : p = (List.range n).map fun j => p.getD j 0 := by
  refine List.ext_getElem (by simp [h]) fun j h1 h2 => ?_
  simp [List.getD_eq_getElem?_getD, h1]
theorem enc_dec {p : List UInt8} (h : p.length = 64) (h0 : p.getD 60 0 = 0) (h1 : p.getD 61 0 = 0) (h2 : p.getD 62 0 = 0) (h3 : p.getD 63 0 = 0) : encB (decN p) = p := by
  have e : encB (decN p) = [lo8 (num16 p 0), lo8 (num16 p 0 / 256), lo8 (num16 p 2), lo8 (num16 p 2 / 256), lo8 (num32 p 4), lo8 (num32 p 4 / 256), lo8 (num32 p 4 / 65536), lo8 (num32 p 4 / 16777216), lo8 (num32 p 8), lo8 (num32 p 8 / 256), lo8 (num32 p 8 / 65536), lo8 (num32 p 8 / 16777216), lo8 (num32 p 12), lo8 (num32 p 12 / 256), lo8 (num32 p 12 / 65536), lo8 (num32 p 12 / 16777216), lo8 (num32 p 16), lo8 (num32 p 16 / 256), lo8 (num32 p 16 / 65536), lo8 (num32 p 16 / 16777216), lo8 (num32 p 20), lo8 (num32 p 20 / 256), lo8 (num32 p 20 / 65536), lo8 (num32 p 20 / 16777216), lo8 (num32 p 24), lo8 (num32 p 24 / 256), lo8 (num32 p 24 / 65536), lo8 (num32 p 24 / 16777216), lo8 (num32 p 28), lo8 (num32 p 28 / 256), lo8 (num32 p 28 / 65536), lo8 (num32 p 28 / 16777216), lo8 (num32 p 32), lo8 (num32 p 32 / 256), lo8 (num32 p 32 / 65536), lo8 (num32 p 32 / 16777216), lo8 (num32 p 36), lo8 (num32 p 36 / 256), lo8 (num32 p 36 / 65536), lo8 (num32 p 36 / 16777216), lo8 (num32 p 40), lo8 (num32 p 40 / 256), lo8 (num32 p 40 / 65536), lo8 (num32 p 40 / 16777216), lo8 (num32 p 44), lo8 (num32 p 44 / 256), lo8 (num32 p 44 / 65536), lo8 (num32 p 44 / 16777216), lo8 (num32 p 48), lo8 (num32 p 48 / 256), lo8 (num32 p 48 / 65536), lo8 (num32 p 48 / 16777216), lo8 (num32 p 52), lo8 (num32 p 52 / 256), lo8 (num32 p 52 / 65536), lo8 (num32 p 52 / 16777216), lo8 (num32 p 56), lo8 (num32 p 56 / 256), lo8 (num32 p 56 / 65536), lo8 (num32 p 56 / 16777216), 0, 0, 0, 0] := rfl
  rw [e, (b16 p 0).1, (b16 p 0).2, (b16 p 2).1, (b16 p 2).2, (b32 p 4).1, (b32 p 4).2.1, (b32 p 4).2.2.1, (b32 p 4).2.2.2, (b32 p 8).1, (b32 p 8).2.1, (b32 p 8).2.2.1, (b32 p 8).2.2.2, (b32 p 12).1, (b32 p 12).2.1, (b32 p 12).2.2.1, (b32 p 12).2.2.2, (b32 p 16).1, (b32 p 16).2.1, (b32 p 16).2.2.1, (b32 p 16).2.2.2, (b32 p 20).1, (b32 p 20).2.1, (b32 p 20).2.2.1, (b32 p 20).2.2.2, (b32 p 24).1, (b32 p 24).2.1, (b32 p 24).2.2.1, (b32 p 24).2.2.2, (b32 p 28).1, (b32 p 28).2.1, (b32 p 28).2.2.1, (b32 p 28).2.2.2, (b32 p 32).1, (b32 p 32).2.1, (b32 p 32).2.2.1, (b32 p 32).2.2.2, (b32 p 36).1, (b32 p 36).2.1, (b32 p 36).2.2.1, (b32 p 36).2.2.2, (b32 p 40).1, (b32 p 40).2.1, (b32 p 40).2.2.1, (b32 p 40).2.2.2, (b32 p 44).1, (b32 p 44).2.1, (b32 p 44).2.2.1, (b32 p 44).2.2.2, (b32 p 48).1, (b32 p 48).2.1, (b32 p 48).2.2.1, (b32 p 48).2.2.2, (b32 p 52).1, (b32 p 52).2.1, (b32 p 52).2.2.1, (b32 p 52).2.2.2, (b32 p 56).1, (b32 p 56).2.1, (b32 p 56).2.2.1, (b32 p 56).2.2.2]
  have e2 := list_of 64 p h
  have e3 : (List.range 64).map (fun j => p.getD j 0) = [p.getD 0 0, p.getD 1 0, p.getD 2 0, p.getD 3 0, p.getD 4 0, p.getD 5 0, p.getD 6 0, p.getD 7 0, p.getD 8 0, p.getD 9 0, p.getD 10 0, p.getD 11 0, p.getD 12 0, p.getD 13 0, p.getD 14 0, p.getD 15 0, p.getD 16 0, p.getD 17 0, p.getD 18 0, p.getD 19 0, p.getD 20 0, p.getD 21 0, p.getD 22 0, p.getD 23 0, p.getD 24 0, p.getD 25 0, p.getD 26 0, p.getD 27 0, p.getD 28 0, p.getD 29 0, p.getD 30 0, p.getD 31 0, p.getD 32 0, p.getD 33 0, p.getD 34 0, p.getD 35 0, p.getD 36 0, p.getD 37 0, p.getD 38 0, p.getD 39 0, p.getD 40 0, p.getD 41 0, p.getD 42 0, p.getD 43 0, p.getD 44 0, p.getD 45 0, p.getD 46 0, p.getD 47 0, p.getD 48 0, p.getD 49 0, p.getD 50 0, p.getD 51 0, p.getD 52 0, p.getD 53 0, p.getD 54 0, p.getD 55 0, p.getD 56 0, p.getD 57 0, p.getD 58 0, p.getD 59 0, p.getD 60 0, p.getD 61 0, p.getD 62 0, p.getD 63 0] := rfl
  rw [e3, h0, h1, h2, h3] at e2
  exact e2.symm
theorem dec_ok (p : List UInt8) : (decN p).Ok := ⟨num16_lt p 0, num16_lt p 2, num32_lt p 4, num32_lt p 8, num32_lt p 12, num32_lt p 16, num32_lt p 20, num32_lt p 24, num32_lt p 28, num32_lt p 32, num32_lt p 36, num32_lt p 40, num32_lt p 44, num32_lt p 48, num32_lt p 52, num32_lt p 56⟩
theorem enc_len (n : Nd) : (encB n).length = 64 := rfl
theorem enc_inj {n m : Nd} (hn : n.Ok) (hm : m.Ok) (h : encB n = encB m) : n = m := by rw [← dec_enc hn, ← dec_enc hm, h]
theorem nd_eq {n m : Nd} : n = m ↔ (n.k = m.k ∧ n.l = m.l ∧ n.z = m.z ∧ n.b = m.b ∧ n.d0 = m.d0 ∧ n.d1 = m.d1 ∧ n.d2 = m.d2 ∧ n.d3 = m.d3 ∧ n.d4 = m.d4 ∧ n.d5 = m.d5 ∧ n.d6 = m.d6 ∧ n.d7 = m.d7 ∧ n.d8 = m.d8 ∧ n.d9 = m.d9 ∧ n.s = m.s ∧ n.e = m.e ∧ True) := by
  constructor
  · rintro rfl; exact ⟨rfl, rfl, rfl, rfl, rfl, rfl, rfl, rfl, rfl, rfl, rfl, rfl, rfl, rfl, rfl, rfl, trivial⟩
  · rintro ⟨q0, q1, q2, q3, q4, q5, q6, q7, q8, q9, q10, q11, q12, q13, q14, q15, _⟩
    cases n; cases m
    simp only [Nd.mk.injEq]
    exact ⟨q0, q1, q2, q3, q4, q5, q6, q7, q8, q9, q10, q11, q12, q13, q14, q15⟩
end Go.Proofs.Ytgcbjeemkifonaa.Pe
