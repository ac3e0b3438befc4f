/- What the functions compute: bytes; the reference's checks. -/
import Derived.Test.YtcnhjofpmpipfaaSp1
import Derived.Test.YtcnhjofpmpipfaaOwn
set_option linter.unusedVariables false
namespace Pk
open Go.Sx

def numGo : Nat → Nat → List UInt8 → List UInt8
  | 0, u, acc => acc ++ [UInt8.ofNat u]
  | f + 1, u, acc => if 128 ≤ u then numGo f (u / 128) (acc ++ [UInt8.ofNat u ||| 128]) else acc ++ [UInt8.ofNat u]
def zig (n : Int) : Nat := (if n < 0 then -2 * n - 1 else 2 * n).toNat
def number (n : Int) : List UInt8 := numGo (zig n) (zig n) []
theorem numGo_end {f u : Nat} {acc : List UInt8} (h : ¬ 128 ≤ u) : numGo f u acc = acc ++ [UInt8.ofNat u] := by
  cases f <;> simp [numGo, h]
def sumGo : Int → List UInt8 → Int
  | s, [] => s
  | s, c :: l => sumGo ((31 * s + c.toNat) % 2147483647) l
def sumN (b : List UInt8) : Int := sumGo 1 b
def byteOf (n : Int) : UInt8 := UInt8.ofNat n.toNat
def sumB (b : List UInt8) : List UInt8 := [byteOf (sumN b / 16777216), byteOf (sumN b / 65536), byteOf (sumN b / 256), byteOf (sumN b)]
theorem sumGo_range : ∀ (l : List UInt8) (s : Int), 0 ≤ s → s < 2147483647 → 0 ≤ sumGo s l ∧ sumGo s l < 2147483647
  | [], s, h0, h1 => ⟨h0, h1⟩
  | c :: l, s, h0, h1 => sumGo_range l _ (by omega) (by omega)
theorem sumN_range (b : List UInt8) : 0 ≤ sumN b ∧ sumN b < 2147483647 := sumGo_range b 1 (by omega) (by omega)
def code (v : Val) : Int := if v.Kind = 3 then 0 else if v.Kind = 4 then v.N + 1 else v.N
def summed (b : List UInt8) : List UInt8 := [] ++ b ++ [byteOf (sumN b / 16777216), byteOf (sumN b / 65536 % 256), byteOf (sumN b / 256 % 256), byteOf (sumN b % 256)]
def cloneL {α : Type} (l : List α) : List α := l

/-! the reference -/
def rformGo (name : ByteArray) : Nat → List Form → Int
  | _, [] => -1
  | k, f :: l => if f.Name = name then (k : Int) else rformGo name (k + 1) l
def rform (l : List Form) (name : ByteArray) : Int := rformGo name 0 l
def rcolGo (name : ByteArray) : Nat → List Col → Int
  | _, [] => -1
  | k, f :: l => if f.Name = name then (k : Int) else rcolGo name (k + 1) l
def rcol (f : Form) (name : ByteArray) : Int := rcolGo name 0 f.Cols
def sameValsGo : List Val → List Val → Bool
  | [], _ => true
  | _, [] => true
  | a :: l, b :: m => if a = b then sameValsGo l m else false
def sameVals (a b : List Val) : Bool := if (a.length : Int) = b.length then sameValsGo a b else false
def isSmallByte (b : UInt8) : Bool := decide ((97 : Int) ≤ b.toNat) && decide ((b.toNat : Int) ≤ 122)
def isCapByte (b : UInt8) : Bool := decide ((65 : Int) ≤ b.toNat) && decide ((b.toNat : Int) ≤ 90)
def isDigByte (b : UInt8) : Bool := decide ((48 : Int) ≤ b.toNat) && decide ((b.toNat : Int) ≤ 57)
def isPart (b : UInt8) : Bool := isSmallByte b || isCapByte b || isDigByte b || decide ((b.toNat : Int) = 95)
def rhasGo (s : ByteArray) : List ByteArray → Bool
  | [] => false
  | x :: l => if x = s then true else rhasGo s l
def rhas (l : List ByteArray) (s : ByteArray) : Bool := rhasGo s l
end Pk
namespace Pk
open Go.Sx
def runGo (s : ByteArray) (a : Int) : Nat → Nat → Int
  | 0, n => n
  | f + 1, n => if a + n < s.size then (if isPart (byteAt s (a + n).toNat) = true then runGo s a f (n + 1) else n) else n
def run (s : ByteArray) (a : Int) : Int := runGo s a s.size 0
theorem runGo_end {s : ByteArray} {a : Int} {f n : Nat} (h : ¬ a + n < s.size) : runGo s a f n = n := by cases f <;> simp [runGo, h]
def allDig : List UInt8 → Bool
  | [] => true
  | b :: l => if isDigByte b = true then allDig l else false
theorem allDig_mem : ∀ {l : List UInt8}, allDig l = true → ∀ b ∈ l, 48 ≤ (b.toNat : Int) ∧ (b.toNat : Int) ≤ 57
  | [], _, b, hb => by simp at hb
  | c :: l, h, b, hb => by
    unfold allDig at h
    split at h
    · rename_i hc
      simp only [List.mem_cons] at hb
      rcases hb with rfl | hb
      · simp [isDigByte] at hc; omega
      · exact allDig_mem h b hb
    · cases h
def numVal : Int → List UInt8 → R1Numbered
  | n, [] => ⟨n, 0⟩
  | n, b :: l => if 1099511627776 < 10 * n + b.toNat - 48 then ⟨0, 3⟩ else numVal (10 * n + b.toNat - 48) l
def rnumber (s : ByteArray) : R1Numbered :=
  if allDig (sbytes s) = true then
    (if ((byteAt s 0).toNat : Int) = 48 ∧ (1 : Int) < s.size then ⟨0, 2⟩ else numVal 0 (sbytes s))
  else ⟨0, 2⟩
def anyL (p : UInt8 → Bool) : Bool → List UInt8 → Bool
  | a, [] => a
  | a, b :: l => anyL p (a || p b) l
theorem anyL_true {p : UInt8 → Bool} : ∀ l : List UInt8, anyL p true l = true
  | [] => rfl
  | b :: l => by simp [anyL, anyL_true l]
def keywords : List ByteArray := [⟨#[97, 110, 100]⟩, ⟨#[97, 115]⟩, ⟨#[97, 116, 116, 97, 99, 104, 101, 100]⟩, ⟨#[99, 104, 101, 99, 107]⟩, ⟨#[99, 108, 97, 115, 115]⟩, ⟨#[99, 114, 101, 97, 116, 101]⟩, ⟨#[100, 101, 102, 101, 114, 114, 101, 100]⟩, ⟨#[100, 101, 116, 97, 99, 104, 97, 98, 108, 101]⟩, ⟨#[100, 111]⟩, ⟨#[101, 108, 115, 101]⟩, ⟨#[101, 110, 100]⟩, ⟨#[101, 110, 115, 117, 114, 101]⟩, ⟨#[102, 101, 97, 116, 117, 114, 101]⟩, ⟨#[102, 114, 111, 109]⟩, ⟨#[105, 102]⟩, ⟨#[105, 109, 112, 108, 105, 101, 115]⟩, ⟨#[105, 110, 104, 101, 114, 105, 116]⟩, ⟨#[105, 110, 118, 97, 114, 105, 97, 110, 116]⟩, ⟨#[108, 111, 99, 97, 108]⟩, ⟨#[108, 111, 111, 112]⟩, ⟨#[110, 111, 116]⟩, ⟨#[111, 108, 100]⟩, ⟨#[111, 114]⟩, ⟨#[112, 117, 116]⟩, ⟨#[114, 97, 105, 115, 101]⟩, ⟨#[114, 101, 100, 101, 102, 105, 110, 101]⟩, ⟨#[114, 101, 110, 97, 109, 101]⟩, ⟨#[114, 101, 113, 117, 105, 114, 101]⟩, ⟨#[114, 101, 115, 99, 117, 101]⟩, ⟨#[114, 101, 116, 114, 121]⟩, ⟨#[115, 101, 108, 101, 99, 116]⟩, ⟨#[115, 101, 112, 97, 114, 97, 116, 101]⟩, ⟨#[116, 104, 101, 110]⟩, ⟨#[117, 110, 100, 101, 102, 105, 110, 101]⟩, ⟨#[117, 110, 116, 105, 108]⟩, ⟨#[118, 97, 114, 105, 97, 110, 116]⟩, ⟨#[119, 104, 101, 110]⟩]
def rsigns : List ByteArray := [⟨#[58, 61]⟩, ⟨#[47, 61]⟩, ⟨#[60, 61]⟩, ⟨#[62, 61]⟩, ⟨#[47, 47]⟩, ⟨#[61]⟩, ⟨#[60]⟩, ⟨#[62]⟩, ⟨#[43]⟩, ⟨#[45]⟩, ⟨#[42]⟩, ⟨#[37]⟩, ⟨#[40]⟩, ⟨#[41]⟩, ⟨#[91]⟩, ⟨#[93]⟩, ⟨#[123]⟩, ⟨#[125]⟩, ⟨#[44]⟩, ⟨#[59]⟩, ⟨#[58]⟩, ⟨#[46]⟩]
def wordsT : List ByteArray := [⟨#[84, 114, 117, 101]⟩, ⟨#[70, 97, 108, 115, 101]⟩, ⟨#[86, 111, 105, 100]⟩, ⟨#[67, 117, 114, 114, 101, 110, 116]⟩, ⟨#[82, 101, 115, 117, 108, 116]⟩]
def wordEnd (s : ByteArray) (low high : Bool) : R1Kinded :=
  if low = true then (if high = true then ⟨0, 2⟩ else if (20 : Int) < s.size then ⟨0, 3⟩ else ⟨1, 0⟩)
  else if (20 : Int) < s.size then ⟨0, 3⟩ else ⟨2, 0⟩
def rword (s : ByteArray) : R1Kinded :=
  if rhas keywords s = true then ⟨3, 0⟩ else if rhas wordsT s = true then ⟨3, 0⟩
  else if rhas smallWords s = true then ⟨0, 4⟩
  else
    wordEnd s (anyL isSmallByte false (sbytes s)) (anyL isCapByte false (sbytes s))
def rshape (s : ByteArray) : R1Kinded :=
  if rhas rsigns s = true then ⟨5, 0⟩
  else if (s.size : Int) = 0 then ⟨0, 2⟩
  else if run s 0 < s.size then ⟨0, 2⟩
  else if ((byteAt s 0).toNat : Int) = 95 then ⟨0, 2⟩
  else if isDigByte (byteAt s 0) = true then (if (rnumber s).E ≠ 0 then ⟨0, (rnumber s).E⟩ else ⟨4, 0⟩)
  else rword s
def rclassed (s : ByteArray) : Bool :=
  decide ((rshape s).E = 0) && decide ((rshape s).K = 2) && decide (¬ s = ⟨#[73, 78, 84, 69, 71, 69, 82]⟩) && decide (¬ s = ⟨#[66, 79, 79, 76, 69, 65, 78]⟩) && decide (¬ s = ⟨#[65, 78, 89]⟩) && decide (¬ s = ⟨#[78, 79, 78, 69]⟩)
def okSmall (b : UInt8) : Bool := (decide ((97 : Int) ≤ b.toNat) && decide ((b.toNat : Int) ≤ 122)) || (decide ((48 : Int) ≤ b.toNat) && decide ((b.toNat : Int) ≤ 57)) || decide ((b.toNat : Int) = 95)
def allSmall : List UInt8 → Bool
  | [] => true
  | b :: l => if okSmall b = true then allSmall l else false
def rsmallNamed (s : ByteArray) : Bool :=
  if (s.size : Int) < 1 then false else if (20 : Int) < s.size then false else if ((byteAt s 0).toNat : Int) < 97 then false else if (122 : Int) < (byteAt s 0).toNat then false
  else if allSmall (sbytes s) = true then
    decide (¬ s = ⟨#[116, 114, 117, 101]⟩) && decide (¬ s = ⟨#[102, 97, 108, 115, 101]⟩) && decide (¬ s = ⟨#[118, 111, 105, 100]⟩) && decide (¬ s = ⟨#[99, 117, 114, 114, 101, 110, 116]⟩) && decide (¬ s = ⟨#[114, 101, 115, 117, 108, 116]⟩)
  else false
end Pk

namespace Pk
open Go.Sx
def anyInv (p : UInt8 → Bool) (a : Bool) (l : List UInt8) : Bool := anyL p a l
end Pk
