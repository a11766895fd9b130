/- The walk of rec's reader, at every input: a byte, a number, a time. k is where it stands, sh whether bytes have ended. -/
import Derived.Test.YtpgbfglfmmohdaaRdr4
set_option linter.unusedVariables false
set_option maxRecDepth 20000
namespace Go.Proofs.Ytpgbfglfmmohdaa
open Go.RowKit Go.Deep

def byteN (s : ByteArray) (k : Nat) : Int := if h : k < s.size then (s[k].toNat : Int) else 0
def byteK (s : ByteArray) (k : Nat) : Nat := if k < s.size then k + 1 else k
def byteS (s : ByteArray) (k : Nat) (sh : Bool) : Bool := if k < s.size then sh else true
def wordN (s : ByteArray) (k : Nat) : Int := if k + 8 ≤ s.size then unI (rdN s k 8 : Nat) else 0
def timeN (s : ByteArray) (k : Nat) : Nat := if k + 8 ≤ s.size then timeB s k else 0
def wordK (s : ByteArray) (k : Nat) : Nat := if k + 8 ≤ s.size then k + 8 else k
def wordS (s : ByteArray) (k : Nat) (sh : Bool) : Bool := if k + 8 ≤ s.size then sh else true
theorem byteK_le {s : ByteArray} {k : Nat} (h : k ≤ s.size) : byteK s k ≤ s.size := by unfold byteK; split <;> omega
theorem wordK_le {s : ByteArray} {k : Nat} (h : k ≤ s.size) : wordK s k ≤ s.size := by unfold wordK; split <;> omega
theorem rbyte_any (s : ByteArray) (k : Nat) (sh : Bool) (g : Nat) (w : World) (h : RdAt w g s k sh) (hk : k ≤ s.size) (hm : s.size ≤ 9223372036854775807) :
    Calls Try.prog 101 #[.pointer (some ⟨g, 0, none⟩)] w fun e w' => e = .returned (.int .i64 (byteN s k)) ∧ RdTo w w' g s (byteK s k : Nat) (byteS s k sh) := by
  unfold byteN byteK byteS
  by_cases hl : k < s.size
  · rw [dif_pos hl, if_pos hl, if_pos hl, show ((k + 1 : Nat) : Int) = (k : Int) + 1 by omega]; exact byte_in s k sh g w h hl hm
  · rw [dif_neg hl, if_neg hl, if_neg hl]; exact byte_end s k sh g w h (by omega) hm
theorem rint_any (s : ByteArray) (k : Nat) (sh : Bool) (g : Nat) (w : World) (h : RdAt w g s k sh) (hk : k ≤ s.size) (hm : s.size ≤ 9223372036854775807) :
    Calls Try.prog 106 #[.pointer (some ⟨g, 0, none⟩)] w fun e w' => e = .returned (.int .i64 (wordN s k)) ∧ RdTo w w' g s (wordK s k : Nat) (wordS s k sh) := by
  unfold wordN wordK wordS
  by_cases hl : k + 8 ≤ s.size
  · rw [if_pos hl, if_pos hl, if_pos hl, show ((k + 8 : Nat) : Int) = (k : Int) + 8 by omega]; exact int_in s k sh g w h hl hm
  · rw [if_neg hl, if_neg hl, if_neg hl]; exact int_end s k sh g w h hk (by omega) hm
theorem rtime_any (s : ByteArray) (k : Nat) (sh : Bool) (g : Nat) (w : World) (h : RdAt w g s k sh) (hk : k ≤ s.size) (hm : s.size ≤ 9223372036854775807) :
    Calls Try.prog 109 #[.pointer (some ⟨g, 0, none⟩)] w fun e w' => e = .returned (.float .f64 (timeN s k)) ∧ RdTo w w' g s (wordK s k : Nat) (wordS s k sh) := by
  unfold timeN wordK wordS
  by_cases hl : k + 8 ≤ s.size
  · rw [if_pos hl, if_pos hl, if_pos hl, show ((k + 8 : Nat) : Int) = (k : Int) + 8 by omega]; exact time_go s k sh g w h hl hm
  · rw [if_neg hl, if_neg hl, if_neg hl]; exact time_end s k sh g w h hk (by omega) hm
end Go.Proofs.Ytpgbfglfmmohdaa
