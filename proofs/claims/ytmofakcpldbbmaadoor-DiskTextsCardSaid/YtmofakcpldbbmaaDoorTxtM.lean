/- The model of package text: One. -/
import Derived.Test.YtmofakcpldbbmaaDoorTxtJ
namespace Go.Proofs.YtmofakcpldbbmaaDoor
open Go.RowKit

/-- The encoding of a symbol. -/
def oneM (runes : Bool) (s : Nat) : List UInt8 :=
  if !runes || decide (s < 128) then [UInt8.ofNat s]
  else if s < 2048 then [UInt8.ofNat (192 + s / 64), UInt8.ofNat (128 + s % 64)]
  else if s < 65536 then [UInt8.ofNat (224 + s / 4096), UInt8.ofNat (128 + s / 64 % 64), UInt8.ofNat (128 + s % 64)]
  else [UInt8.ofNat (240 + s / 262144), UInt8.ofNat (128 + s / 4096 % 64), UInt8.ofNat (128 + s / 64 % 64), UInt8.ofNat (128 + s % 64)]
theorem vB_of (k : Nat) (h : k < 256) : vB (UInt8.ofNat k) = .int .u8 (k : Int) := by
  unfold vB
  rw [UInt8.toNat_ofNat', Nat.mod_eq_of_lt (by omega)]
theorem u8_wrap (k : Int) (h0 : 0 ≤ k) (h : k < 256) : IntKind.u8.wrap k = k := by rw [IntKind.wrap_u8]; omega

end Go.Proofs.YtmofakcpldbbmaaDoor
