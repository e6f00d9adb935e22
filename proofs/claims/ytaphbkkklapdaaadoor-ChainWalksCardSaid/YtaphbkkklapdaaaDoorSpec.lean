/-
  What the two hashes are, in plain Lean over BitVec: no program in sight.
-/
import Derived.Test.YtaphbkkklapdaaaDoorMem
namespace Go.Proofs.YtaphbkkklapdaaaDoor
open Go
/-- a word turned by two numbers and shifted by a third -/
def bend {n : Nat} (x : BitVec n) (i j s : Nat) : BitVec n := x.rotateRight i ^^^ x.rotateRight j ^^^ x >>> s
/-- a word turned by three numbers -/
def turn3 {n : Nat} (x : BitVec n) (i j k : Nat) : BitVec n := x.rotateRight i ^^^ x.rotateRight j ^^^ x.rotateRight k
def nextW32 (W : List (BitVec 32)) (t : Nat) : BitVec 32 := bend (W.getD (t - 2) 0) 17 19 10 + W.getD (t - 7) 0 + bend (W.getD (t - 15) 0) 7 18 3 + W.getD (t - 16) 0
def nextW64 (W : List (BitVec 64)) (t : Nat) : BitVec 64 := bend (W.getD (t - 2) 0) 19 61 6 + W.getD (t - 7) 0 + bend (W.getD (t - 15) 0) 1 8 7 + W.getD (t - 16) 0
/-- the first t words of a block's schedule -/
def words32 (l : List (BitVec 8)) : Nat → List (BitVec 32)
  | 0 => []
  | t + 1 => words32 l t ++ [if t < 16 then be 32 ((l.drop (4 * t)).take 4) else nextW32 (words32 l t) t]
def words64 (l : List (BitVec 8)) : Nat → List (BitVec 64)
  | 0 => []
  | t + 1 => words64 l t ++ [if t < 16 then be 64 ((l.drop (8 * t)).take 8) else nextW64 (words64 l t) t]
/-- a state of eight words -/
structure St (n : Nat) where
  (a b c d e f g h : BitVec n)
def St.list {n : Nat} (s : St n) : List (BitVec n) := [s.a, s.b, s.c, s.d, s.e, s.f, s.g, s.h]
def St.add {n : Nat} (s t : St n) : St n := ⟨s.a + t.a, s.b + t.b, s.c + t.c, s.d + t.d, s.e + t.e, s.f + t.f, s.g + t.g, s.h + t.h⟩
/-- one round, the turns of e and of a told ahead -/
def St.round {n : Nat} (one two : BitVec n → BitVec n) (s : St n) (k w : BitVec n) : St n :=
  let x := s.h + one s.e + (s.e &&& s.f ^^^ ~~~ s.e &&& s.g) + k + w
  let y := two s.a + (s.a &&& s.b ^^^ s.a &&& s.c ^^^ s.b &&& s.c)
  ⟨x + y, s.a, s.b, s.c, s.d + x, s.e, s.f, s.g⟩
def round32 (s : St 32) (k w : BitVec 32) : St 32 := s.round (turn3 · 6 11 25) (turn3 · 2 13 22) k w
def round64 (s : St 64) (k w : BitVec 64) : St 64 := s.round (turn3 · 14 18 41) (turn3 · 28 34 39) k w
/-- t rounds, by the constants K and the words W -/
def roundsTo {n : Nat} (r : St n → BitVec n → BitVec n → St n) (s : St n) (K W : List (BitVec n)) : Nat → St n
  | 0 => s
  | t + 1 => r (roundsTo r s K W t) (K.getD t 0) (W.getD t 0)
def K256 : List (BitVec 32) := [
  0x428a2f98, 0x71374491, 0xb5c0fbcf, 0xe9b5dba5, 0x3956c25b, 0x59f111f1, 0x923f82a4, 0xab1c5ed5,
  0xd807aa98, 0x12835b01, 0x243185be, 0x550c7dc3, 0x72be5d74, 0x80deb1fe, 0x9bdc06a7, 0xc19bf174,
  0xe49b69c1, 0xefbe4786, 0x0fc19dc6, 0x240ca1cc, 0x2de92c6f, 0x4a7484aa, 0x5cb0a9dc, 0x76f988da,
  0x983e5152, 0xa831c66d, 0xb00327c8, 0xbf597fc7, 0xc6e00bf3, 0xd5a79147, 0x06ca6351, 0x14292967,
  0x27b70a85, 0x2e1b2138, 0x4d2c6dfc, 0x53380d13, 0x650a7354, 0x766a0abb, 0x81c2c92e, 0x92722c85,
  0xa2bfe8a1, 0xa81a664b, 0xc24b8b70, 0xc76c51a3, 0xd192e819, 0xd6990624, 0xf40e3585, 0x106aa070,
  0x19a4c116, 0x1e376c08, 0x2748774c, 0x34b0bcb5, 0x391c0cb3, 0x4ed8aa4a, 0x5b9cca4f, 0x682e6ff3,
  0x748f82ee, 0x78a5636f, 0x84c87814, 0x8cc70208, 0x90befffa, 0xa4506ceb, 0xbef9a3f7, 0xc67178f2]
def K512 : List (BitVec 64) := [
  0x428a2f98d728ae22, 0x7137449123ef65cd, 0xb5c0fbcfec4d3b2f, 0xe9b5dba58189dbbc, 0x3956c25bf348b538, 0x59f111f1b605d019, 0x923f82a4af194f9b, 0xab1c5ed5da6d8118,
  0xd807aa98a3030242, 0x12835b0145706fbe, 0x243185be4ee4b28c, 0x550c7dc3d5ffb4e2, 0x72be5d74f27b896f, 0x80deb1fe3b1696b1, 0x9bdc06a725c71235, 0xc19bf174cf692694,
  0xe49b69c19ef14ad2, 0xefbe4786384f25e3, 0x0fc19dc68b8cd5b5, 0x240ca1cc77ac9c65, 0x2de92c6f592b0275, 0x4a7484aa6ea6e483, 0x5cb0a9dcbd41fbd4, 0x76f988da831153b5,
  0x983e5152ee66dfab, 0xa831c66d2db43210, 0xb00327c898fb213f, 0xbf597fc7beef0ee4, 0xc6e00bf33da88fc2, 0xd5a79147930aa725, 0x06ca6351e003826f, 0x142929670a0e6e70,
  0x27b70a8546d22ffc, 0x2e1b21385c26c926, 0x4d2c6dfc5ac42aed, 0x53380d139d95b3df, 0x650a73548baf63de, 0x766a0abb3c77b2a8, 0x81c2c92e47edaee6, 0x92722c851482353b,
  0xa2bfe8a14cf10364, 0xa81a664bbc423001, 0xc24b8b70d0f89791, 0xc76c51a30654be30, 0xd192e819d6ef5218, 0xd69906245565a910, 0xf40e35855771202a, 0x106aa07032bbd1b8,
  0x19a4c116b8d2d0c8, 0x1e376c085141ab53, 0x2748774cdf8eeb99, 0x34b0bcb5e19b48a8, 0x391c0cb3c5c95a63, 0x4ed8aa4ae3418acb, 0x5b9cca4f7763e373, 0x682e6ff3d6b2b8a3,
  0x748f82ee5defb2fc, 0x78a5636f43172f60, 0x84c87814a1f0ab72, 0x8cc702081a6439ec, 0x90befffa23631e28, 0xa4506cebde82bde9, 0xbef9a3f7b2c67915, 0xc67178f2e372532b,
  0xca273eceea26619c, 0xd186b8c721c0c207, 0xeada7dd6cde0eb1e, 0xf57d4f7fee6ed178, 0x06f067aa72176fba, 0x0a637dc5a2c898a6, 0x113f9804bef90dae, 0x1b710b35131c471b,
  0x28db77f523047d84, 0x32caab7b40c72493, 0x3c9ebe0a15c9bebc, 0x431d67c49c100d4c, 0x4cc5d4becb3e42b6, 0x597f299cfc657e2a, 0x5fcb6fab3ad6faec, 0x6c44198c4a475817]
/-- a state led through one block -/
def block256 (s : St 32) (l : List (BitVec 8)) : St 32 := s.add (roundsTo round32 s K256 (words32 l 64) 64)
def block512 (s : St 64) (l : List (BitVec 8)) : St 64 := s.add (roundsTo round64 s K512 (words64 l 80) 80)
def first256 : St 32 := ⟨0x6a09e667, 0xbb67ae85, 0x3c6ef372, 0xa54ff53a, 0x510e527f, 0x9b05688c, 0x1f83d9ab, 0x5be0cd19⟩
def first512 : St 64 := ⟨0x6a09e667f3bcc908, 0xbb67ae8584caa73b, 0x3c6ef372fe94f82b, 0xa54ff53a5f1d36f1, 0x510e527fade682d1, 0x9b05688c2b3e6c1f, 0x1f83d9abfb41bd6b, 0x5be0cd19137e2179⟩
/-- the sums of two lists up to k, behind it the first list -/
def addTo {n : Nat} (s t : List (BitVec n)) (k : Nat) : List (BitVec n) := (List.zipWith (· + ·) s t).take k ++ s.drop k
def zrow32 (n : Nat) : Array Value := (List.replicate n (U32 0)).toArray
def zrow64 (n : Nat) : Array Value := (List.replicate n (U64 0)).toArray
def zrow8 (n : Nat) : Array Value := (List.replicate n (U8 0)).toArray
theorem zrow8_size (n : Nat) : (zrow8 n).size = n := by simp [zrow8]
end Go.Proofs.YtaphbkkklapdaaaDoor
