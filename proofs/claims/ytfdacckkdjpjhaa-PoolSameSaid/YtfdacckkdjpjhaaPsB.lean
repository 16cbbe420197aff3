/- The law PoolSame: what a task stands for; the law's answers in memory. -/
import Derived.Test.YtfdacckkdjpjhaaPsA
import Derived.Test.YtfdacckkdjpjhaaWire
import Derived.Test.YtfdacckkdjpjhaaHash
namespace Go.Proofs.Ytfdacckkdjpjhaa
open Go.RowKit

theorem Wr.new34 (w : World) : Wr (w.alloc (.cells #[.slice none 0 0] 46)) w.heap.size (.slice none 0 0) [] :=
  ⟨Boxed.new w _ _, World.ownsRow_nil _ _ _ _⟩
theorem WStep.bel34 {W w w' : World} {b : Nat} {v v' : Value} {bs : List UInt8} (h : WStep w w' b v v') (hw : Wr w b v bs) (hB : Below W.heap.size W w) (hb : W.heap.size ≤ b) : Below W.heap.size W w' :=
  hB.trans ((h.below hw).mono hb)
/-- What a task stands for. -/
def resL (b : List UInt8) : List UInt8 := uvar (bytesB [114, 101, 115, 117, 108, 116] b).toNat
theorem resL_len (b : List UInt8) : (resL b).length ≤ 10 := uvar_len _
theorem hashR_any (v : Value) (bs : List UInt8) (w : World) (hv : Rv w v bs.length (bs.map vB)) (hl : bs.length ≤ 1000000000) (n : Nat) (hn : n = bs.length) (x : BitVec 64) (hx : x = bytesB [114, 101, 115, 117, 108, 116] bs) :
    Calls Try.prog 72 #[.string ⟨#[114, 101, 115, 117, 108, 116]⟩, v] w (RetU w x) := by
  have h := hbytes_any ⟨#[114, 101, 115, 117, 108, 116]⟩ v bs w hv (show (6 : Nat) ≤ 1099511627776 by omega) (by omega)
  rw [show (⟨#[114, 101, 115, 117, 108, 116]⟩ : ByteArray).data.toList = [114, 101, 115, 117, 108, 116] from rfl, ← hx] at h
  exact h
set_option maxRecDepth 20000 in
set_option maxHeartbeats 1000000 in
theorem result_any (v : Value) (bs : List UInt8) (w : World) (hv : Rv w v bs.length (bs.map vB)) (hl : bs.length ≤ 1000000000) :
    Calls Try.prog 44 #[v] w (RetMade w 5 ((resL bs).map vB)) := by
  obtain ⟨ao, cap, rfl, _, _⟩ := hv.opened
  obtain ⟨x, hx⟩ : ∃ x, x = bytesB [114, 101, 115, 117, 108, 116] bs := ⟨_, rfl⟩
  have hr : resL bs = uvar x.toNat := by rw [hx]; rfl
  rw [hr]
  have HR := Bx.mk hx
  have HV := Bx.mk hv
  have hxl := x.isLt
  obtain ⟨n, hn⟩ : ∃ n, bs.length = n := ⟨_, rfl⟩
  have HN := Bx.mk hn
  rw [hn] at hl ⊢
  clear hv hx hr hn
  go_enter Try.func44, Try.ntmps44
  go_upto_region 2 with fail
  have W1 := Wr.new34 w
  have B1 := (Below.refl w.heap.size w).alloc (Nat.le_refl _) (.cells #[.slice none 0 0] 46)
  have hs1 : (w.alloc (.cells #[.slice none 0 0] 46)).heap.size = w.heap.size + 1 := World.size_alloc _ _
  generalize w.alloc (.cells #[.slice none 0 0] 46) = w1 at *
  obtain ⟨b, hb⟩ : ∃ b, w.heap.size = b := ⟨_, rfl⟩
  have HB := Bx.mk hb
  have HW1 := Bx.mk W1
  have HB1 := Bx.mk B1
  have hbw : w.heap.size ≤ b := by omega
  rw [hb] at HW1 ⊢
  have HH := Bx.mk (hashR_any (.slice ao n cap) bs w1 (by have := HV.out.below B1; rw [HN.out] at this ⊢; exact this) (by rw [HN.out]; exact hl) n HN.out.symm x HR.out)
  clear W1 B1 hb hs1
  go_wp2_with fail
  refine HH.out.mono ?_
  rintro e w2 ⟨rfl, B2⟩
  have W2 : Wr w2 b (.slice none 0 0) [] := ⟨(B2.block b HW1.out.1.lt).trans HW1.out.1, World.ownsRow_nil _ _ _ _⟩
  have B02 := bel HB1.out B2
  have HW2 := Bx.mk W2
  have HB2 := Bx.mk B02
  have HU := Bx.mk (wuint_any b (.slice none 0 0) [] x.toNat w2 W2 hxl (by decide))
  clear W2 B02 B2 HH HW1 HB1 hxl
  go_wp2_with fail
  refine HU.out.mono ?_
  rintro e w3 ⟨v3, rfl, W3, S3⟩
  rw [List.nil_append] at W3
  have B3 := S3.bel34 HW2.out HB2.out (by have := HB.out; omega)
  have HD := Bx.mk (wdone_any b v3 (uvar x.toNat) w3 W3 (by have := uvar_len x.toNat; omega))
  have HB3 := Bx.mk B3
  clear W3 S3 B3 HU HW2 HB2
  go_wp2_with fail
  refine HD.out.mono ?_
  rintro e w4 ⟨v4, rfl, M4⟩
  obtain ⟨k4, a4, c4, rfl⟩ := own_shape M4.1
  have HM := Bx.mk M4
  clear M4 HD
  go_wp2_with fail
  go_ret
  exact ⟨_, rfl, own_base HM.out.1 HB3.out.size, bel HB3.out HM.out.2⟩
end Go.Proofs.Ytfdacckkdjpjhaa
