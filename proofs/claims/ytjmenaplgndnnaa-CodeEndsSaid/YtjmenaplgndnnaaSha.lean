/- Sums of bytes, as plain functions on lists of words: what the program's package hash computes. No program is in sight here. -/
import Derived.Laws.BitsAllLaws
import Derived.Laws.World
import GoSem.Core.Value
namespace Go.Proofs.Ytjmenaplgndnnaa.Sha
open Go

abbrev W := BitVec 32

/-- a byte as a word -/
def bw (b : UInt8) : W := BitVec.ofNat 32 b.toNat

/-- a word, right-turned by some numbers, put together -/
def mix (x : W) (ks : List Nat) : W := ks.foldl (fun acc k => acc ^^^ x.rotateRight k) 0

/-- four bytes of a block, the highest first -/
def word (b : List UInt8) (t : Nat) : W := (bw (b.getD (4 * t) 0) <<< 24) ||| (bw (b.getD (4 * t + 1) 0) <<< 16) ||| (bw (b.getD (4 * t + 2) 0) <<< 8) ||| bw (b.getD (4 * t + 3) 0)

/-- the words of a block, up to number n -/
def ws (b : List UInt8) : Nat → List W
  | 0 => []
  | t + 1 => ws b t ++ [if t < 16 then word b t else
      (mix ((ws b t).getD (t - 2) 0) [17, 19] ^^^ ((ws b t).getD (t - 2) 0) >>> 10) + (ws b t).getD (t - 7) 0 + (mix ((ws b t).getD (t - 15) 0) [7, 18] ^^^ ((ws b t).getD (t - 15) 0) >>> 3) + (ws b t).getD (t - 16) 0]
theorem length_ws (b : List UInt8) (t : Nat) : (ws b t).length = t := by induction t with | zero => rfl | succ t ih => simp [ws, ih]

/-- the constants of the rounds -/
def ks : List W := [
  0x428a2f98, 0x71374491, 0xb5c0fbcf, 0xe9b5dba5, 0x3956c25b, 0x59f111f1, 0x923f82a4, 0xab1c5ed5,
  0xd807aa98, 0x12835b01, 0x243185be, 0x550c7dc3, 0x72be5d74, 0x80deb1fe, 0x9bdc06a7, 0xc19bf174,
  0xe49b69c1, 0xefbe4786, 0x0fc19dc6, 0x240ca1cc, 0x2de92c6f, 0x4a7484aa, 0x5cb0a9dc, 0x76f988da,
  0x983e5152, 0xa831c66d, 0xb00327c8, 0xbf597fc7, 0xc6e00bf3, 0xd5a79147, 0x06ca6351, 0x14292967,
  0x27b70a85, 0x2e1b2138, 0x4d2c6dfc, 0x53380d13, 0x650a7354, 0x766a0abb, 0x81c2c92e, 0x92722c85,
  0xa2bfe8a1, 0xa81a664b, 0xc24b8b70, 0xc76c51a3, 0xd192e819, 0xd6990624, 0xf40e3585, 0x106aa070,
  0x19a4c116, 0x1e376c08, 0x2748774c, 0x34b0bcb5, 0x391c0cb3, 0x4ed8aa4a, 0x5b9cca4f, 0x682e6ff3,
  0x748f82ee, 0x78a5636f, 0x84c87814, 0x8cc70208, 0x90befffa, 0xa4506ceb, 0xbef9a3f7, 0xc67178f2]

/-- eight words -/
structure St where
  a : W
  b : W
  c : W
  d : W
  e : W
  f : W
  g : W
  h : W
deriving DecidableEq

def St.list (s : St) : List W := [s.a, s.b, s.c, s.d, s.e, s.f, s.g, s.h]
def first : St := ⟨0x6a09e667, 0xbb67ae85, 0x3c6ef372, 0xa54ff53a, 0x510e527f, 0x9b05688c, 0x1f83d9ab, 0x5be0cd19⟩

/-- the two sums of a round -/
def rp (s : St) (k w : W) : W := s.h + mix s.e [6, 11, 25] + (s.g ^^^ (s.e &&& (s.f ^^^ s.g))) + k + w
def rq (s : St) : W := mix s.a [2, 13, 22] + ((s.a &&& (s.b ||| s.c)) ||| (s.b &&& s.c))
/-- a round -/
def rnd (s : St) (k w : W) : St := ⟨rp s k w + rq s, s.a, s.b, s.c, s.d + rp s k w, s.e, s.f, s.g⟩
/-- so many rounds -/
def rnds (s : St) (b : List UInt8) : Nat → St
  | 0 => s
  | t + 1 => rnd (rnds s b t) (ks.getD t 0) ((ws b 64).getD t 0)
def St.add (s t : St) : St := ⟨s.a + t.a, s.b + t.b, s.c + t.c, s.d + t.d, s.e + t.e, s.f + t.f, s.g + t.g, s.h + t.h⟩
/-- a block -/
def comp (s : St) (b : List UInt8) : St := s.add (rnds s b 64)

/-- the bytes of eight words -/
def out (s : St) : List UInt8 := (List.range 32).map fun i => UInt8.ofNat (((s.list.getD (i / 4) 0) >>> (24 - i % 4 * 8)).toNat % 256)

end Go.Proofs.Ytjmenaplgndnnaa.Sha
