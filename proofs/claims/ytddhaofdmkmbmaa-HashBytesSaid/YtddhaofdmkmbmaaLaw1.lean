/- The walks of the laws of the first chapter. -/
import Derived.Test.YtddhaofdmkmbmaaLives1
namespace Go.Proofs.Ytddhaofdmkmbmaa
open Go.RowKit

theorem law_HashSum (s : ByteArray) (v : Value) (xs : List Int) (w : World) (hv : Rv w v xs.length (xs.map (Value.int .i64))) (hs : s.size ≤ maxLen) :
    Calls Try.prog 3 #[.string s, v] w (RetT w) := by
  go_enter Try.func3, Try.ntmps3
  go_wp2_with fail
  refine (short_some s 40 (by omega) _ hs).mono ?_
  rintro e w1 ⟨t, ht, rfl, rfl⟩
  go_wp2_with fail
  refine (ints_some v xs 12 (by omega) _ hv).mono ?_
  rintro e w2 ⟨v2, ys, HY, hy, rfl, hM2, hr2⟩
  go_wp2_with fail
  refine (hsum_any t v2 ys _ hr2 (by omega) (by omega)).mono ?_
  rintro e w3 ⟨rfl, hB3⟩
  go_wp2_with fail
  refine (rsum_any t v2 ys _ (hr2.below hB3) (by omega) (by omega)).mono ?_
  rintro e w4 ⟨rfl, hB4⟩
  go_wp2_with fail
  refine (hsum_any t _ [] _ (Rv.nil _) (by omega) (by simp)).mono ?_
  rintro e w5 ⟨rfl, hB5⟩
  go_wp2_with fail
  refine (rsum_any t _ [] _ (Rv.nil _) (by omega) (by simp)).mono ?_
  rintro e w6 ⟨rfl, hB6⟩
  go_wp2_with fail
  refine (lives_any _).mono ?_
  rintro e w7 ⟨rfl, hB7⟩
  go_wp2_with fail
  go_ret
  exact ⟨rfl, bel (bel (bel (bel (bel hM2.2 hB3) hB4) hB5) hB6) hB7⟩

theorem law_HashBytes (s : ByteArray) (v : Value) (bs : List UInt8) (x y : BitVec 64) (w : World) (hv : Rv w v bs.length (bs.map vB)) (hs : s.size ≤ maxLen) :
    Calls Try.prog 4 #[.string s, v, vU x, vU y] w (RetT w) := by
  go_enter Try.func4, Try.ntmps4
  go_wp2_with fail
  refine (short_some s 20 (by omega) _ hs).mono ?_
  rintro e w1 ⟨t, ht, rfl, rfl⟩
  go_wp2_with fail
  refine (few_some v bs 60 (by omega) _ hv).mono ?_
  rintro e w2 ⟨v2, ys, HY, hy, rfl, hM2, hr2⟩
  go_wp2_with fail
  refine (hbytes_any t v2 ys _ hr2 (by omega) (by omega)).mono ?_
  rintro e w3 ⟨rfl, hB3⟩
  go_wp2_with fail
  refine (rbytes_any t v2 ys _ (hr2.below hB3) (by omega) (by omega)).mono ?_
  rintro e w4 ⟨rfl, hB4⟩
  go_wp2_with fail
  refine (hpair_any x y _).mono ?_
  rintro e w5 ⟨rfl, hB5⟩
  go_wp2_with fail
  refine (rpair_any x y _).mono ?_
  rintro e w6 ⟨rfl, hB6⟩
  go_wp2_with fail
  refine (lives_any _).mono ?_
  rintro e w7 ⟨rfl, hB7⟩
  go_wp2_with fail
  go_ret
  exact ⟨rfl, bel (bel (bel (bel (bel hM2.2 hB3) hB4) hB5) hB6) hB7⟩

theorem law_HashPairs (a b c : BitVec 64) (w : World) :
    Calls Try.prog 9 #[.int .u64 a.toNat, .int .u64 b.toNat, .int .u64 c.toNat] w (RetT w) := by
  by_cases hab : a = b
  · subst hab
    go_enter Try.func9, Try.ntmps9
    go_wp2_with fail
    refine (hpair_any a c _).mono ?_
    rintro e w1 ⟨rfl, hB1⟩
    go_wp2_with fail
    refine (hpair_any a c _).mono ?_
    rintro e w2 ⟨rfl, hB2⟩
    go_wp2_with fail
    refine (hpair_any c a _).mono ?_
    rintro e w3 ⟨rfl, hB3⟩
    go_wp2_with fail
    refine (hpair_any c a _).mono ?_
    rintro e w4 ⟨rfl, hB4⟩
    go_wp2_with fail
    refine (hpair_any a a _).mono ?_
    rintro e w5 ⟨rfl, hB5⟩
    go_wp2_with fail
    refine (hsum_pair a a _).mono ?_
    rintro e w6 ⟨rfl, hB6⟩
    go_wp2_with fail
    refine (lives_any _).mono ?_
    rintro e w7 ⟨rfl, hB7⟩
    go_wp2_with fail
    go_ret
    exact ⟨rfl, bel (bel (bel (bel (bel (bel hB1 hB2) hB3) hB4) hB5) hB6) hB7⟩
  · have h1 := toNat_ne hab
    have h2 := toNat_ne (pair_ne_left (L := [112, 97, 105, 114]) (c := c) hab)
    have h3 := toNat_ne (pair_ne_right (L := [112, 97, 105, 114]) (c := c) hab)
    clear hab
    go_enter Try.func9, Try.ntmps9
    go_wp2_with fail
    refine (hpair_any a c _).mono ?_
    rintro e w1 ⟨rfl, hB1⟩
    go_wp2_with fail
    refine (hpair_any b c _).mono ?_
    rintro e w2 ⟨rfl, hB2⟩
    go_wp2_with fail
    refine (hpair_any c a _).mono ?_
    rintro e w3 ⟨rfl, hB3⟩
    go_wp2_with fail
    refine (hpair_any c b _).mono ?_
    rintro e w4 ⟨rfl, hB4⟩
    go_wp2_with fail
    refine (hpair_any a b _).mono ?_
    rintro e w5 ⟨rfl, hB5⟩
    go_wp2_with fail
    refine (hsum_pair a b _).mono ?_
    rintro e w6 ⟨rfl, hB6⟩
    go_wp2_with fail
    refine (lives_any _).mono ?_
    rintro e w7 ⟨rfl, hB7⟩
    go_wp2_with fail
    go_ret
    exact ⟨rfl, bel (bel (bel (bel (bel (bel hB1 hB2) hB3) hB4) hB5) hB6) hB7⟩
end Go.Proofs.Ytddhaofdmkmbmaa
