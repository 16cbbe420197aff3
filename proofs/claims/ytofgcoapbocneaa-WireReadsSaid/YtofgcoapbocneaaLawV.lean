/- Lists of values in the laws of the second chapter. -/
import Derived.Test.YtofgcoapbocneaaSameV
import Derived.Test.YtofgcoapbocneaaLaw2
namespace Go.Proofs.Ytofgcoapbocneaa
open Go.RowKit

theorem V.okN (n : Int) (h : n = 0 ∨ n = 1) : V.Ok ⟨2, 0, n, [], []⟩ ∧ V.Can ⟨2, 0, n, [], []⟩ :=
  ⟨⟨by simp, by simp only; omega, by simp, by simp, by simp⟩, ⟨by simp, by simp, by simp, fun _ => h, by simp, by simp, by simp⟩⟩
theorem V.okB (k : Int) (hk : k = 3 ∨ k = 4) (b : List UInt8) (h : b.length ≤ 1000) : V.Ok ⟨k, 0, 0, b, []⟩ ∧ V.Can ⟨k, 0, 0, b, []⟩ :=
  ⟨⟨by simp, by simp, by simp only; omega, by simp, by simp⟩, ⟨by simp only; omega, by simp, by simp, by simp, by intro h1 h2; simp only at h1 h2; omega, by simp, by simp only [List.length_nil]; omega⟩⟩
theorem V.okL (l : List Int) (h : l.length ≤ 1000) (hr : ∀ x ∈ l, -9223372036854775808 ≤ x ∧ x ≤ 9223372036854775807) : V.Ok ⟨5, 0, 0, [], l⟩ ∧ V.Can ⟨5, 0, 0, [], l⟩ :=
  ⟨⟨by simp, by simp, by simp, by simp only; omega, hr⟩, ⟨by simp, by simp, by simp, by simp, by simp, by simp, by simp only [List.length_nil]; omega⟩⟩

/-- What may be appended: its rows are not the list's own. -/
structure News (w w5 : World) (ov : Value) (p : V × Value × Value) : Prop where
  rv : RvV w5 w5.heap.size p.1 p.2.1 p.2.2
  ok : p.1.Ok
  fr : ∀ g, (p.2.1.ownBlock = some g ∨ p.2.2.ownBlock = some g) → w.heap.size ≤ g ∧ ov.ownBlock ≠ some g

theorem News.nils (w w5 : World) (ov : Value) (m : V) (ok : m.Ok) (hb : m.b = []) (hl : m.l = []) : News w w5 ov (m, .slice none 0 0, .slice none 0 0) := by
  obtain ⟨k, u, n, b, l⟩ := m
  simp only at hb hl
  subst hb hl
  exact ⟨⟨Rv.nil _, Rv.nil _, low_nil _, low_nil _⟩, ok, fun g hg => by rcases hg with hg | hg <;> cases hg⟩

theorem VI.app {w wr w5 w6 : World} {ov ov' : Value} {ms news : VL} (h : VI w wr ov ms) (hb : Below wr.heap.size wr w5) (hn : ∀ p ∈ news, News w w5 ov p)
    (hown : w6.ownsRow w.heap.size 47 5 ov' (ms.length + news.length) (flatV ms ++ flatV news)) (hg : w5.grownBy w6 ov.ownBlock) (hs : SameOrNew w5 ov ov') :
    VI w w6 ov' (ms ++ news) := by
  have hz := h.bl.size
  have hz5 := hb.size
  have hz6 := hg.size
  have hov : ∀ g, ov.ownBlock = some g → w.heap.size ≤ g ∧ g < wr.heap.size := fun g hg => h.own.lt g hg
  have far : ∀ {m : V} {vb vl : Value}, RvV w5 w5.heap.size m vb vl → (∀ g, (vb.ownBlock = some g ∨ vl.ownBlock = some g) → ov.ownBlock ≠ some g) → RvV w6 w6.heap.size m vb vl := fun R hne =>
    ⟨R.b.far hg (fun g e => hne g (.inl e)) R.bl, R.l.far hg (fun g e => hne g (.inr e)) R.ll, fun g e => Nat.lt_of_lt_of_le (R.bl g e) hz6, fun g e => Nat.lt_of_lt_of_le (R.ll g e) hz6⟩
  have nov : ∀ g, g < w5.heap.size → ov.ownBlock ≠ some g → ov'.ownBlock ≠ some g := fun g hlt hne e => by
    rcases hs with hs | hs
    · exact hne (hs ▸ e)
    · have := hs g e; omega
  refine ⟨by simpa [flatV] using hown, fun p hp => ?_, fun p hp g e => ?_, (h.bl.trans (hb.mono hz)).trans ((Below.refl _ _).grown hg (by omega) (fun g e => (hov g e).1))⟩
  · rcases List.mem_append.1 hp with hp | hp
    · have he := h.el p hp
      refine ⟨far ?_ (fun g e => (h.fr p hp g e).2), he.2⟩
      have := he.1.belowb hb
      exact ⟨this.b, this.l, fun g e => Nat.lt_of_lt_of_le (this.bl g e) hz5, fun g e => Nat.lt_of_lt_of_le (this.ll g e) hz5⟩
    · have N := hn p hp
      exact ⟨far N.rv (fun g e => (N.fr g e).2), N.ok⟩
  · rcases List.mem_append.1 hp with hp | hp
    · have he := h.fr p hp g e
      have hl : g < wr.heap.size := by
        rcases e with e | e
        · exact (h.el p hp).1.bl g e
        · exact (h.el p hp).1.ll g e
      exact ⟨he.1, nov g (by omega) he.2⟩
    · have N := hn p hp
      have hl : g < w5.heap.size := by
        rcases e with e | e
        · exact N.rv.bl g e
        · exact N.rv.ll g e
      exact ⟨(N.fr g e).1, nov g hl (N.fr g e).2⟩

theorem VI.rvs {w wr : World} {ov : Value} {ms : VL} (h : VI w wr ov ms) : RvVs wr wr.heap.size ov ms :=
  ⟨Rv.of_own h.own, fun g e => (h.own.lt g e).2, fun p hp => ⟨(h.el p hp).1, (h.el p hp).2⟩⟩

theorem rdB_bit (n : Int) (h : n = 0 ∨ n = 1) (rest : List UInt8) : rdB (.ok ([if n = 1 then 1 else 0] ++ rest)) = (decide (n = 1), .ok rest) := by
  rcases h with rfl | rfl <;> rfl
/-- Reading a value's encoding gives the value. -/
theorem rdV_enc (m : V) (ok : m.Ok) (can : m.Can) (rest : List UInt8) : rdV m.k (.ok (m.enc ++ rest)) = (m, .ok rest) := by
  obtain ⟨k, u, n, b, l⟩ := m
  have c0 := can.k
  have cu := can.u
  have cn := can.n
  have c2 := can.n2
  have cb := can.b
  have cl := can.l
  have ou := ok.u
  have on := ok.n
  have ob := ok.b
  have ol := ok.l
  have or := ok.r
  simp only at c0 cu cn c2 cb cl ou on ob ol or
  unfold rdV V.enc
  simp only
  by_cases h0 : k = 0
  · subst h0
    rw [if_pos rfl, if_pos rfl, rdU_uvar u rest ou, cn (by decide) (by decide), cb (by decide) (by decide), cl (by decide)]
  rw [if_neg h0, if_neg h0]
  by_cases h1 : k = 1
  · subst h1
    rw [if_pos rfl, if_pos rfl, rdI_zvar n rest on, cu (by decide), cb (by decide) (by decide), cl (by decide)]
  rw [if_neg h1, if_neg h1]
  by_cases h2 : k = 2
  · subst h2
    rw [if_pos rfl, if_pos rfl, rdB_bit n (c2 rfl) rest, cu (by decide), cb (by decide) (by decide), cl (by decide)]
    rcases c2 rfl with rfl | rfl <;> rfl
  rw [if_neg h2, if_neg h2]
  by_cases h3 : k = 3 ∨ k = 4
  · rw [if_pos h3, if_pos h3, rdRaw_rawW b rest (by omega), cu h0, cn h1 h2, cl (by omega)]
  · rw [if_neg h3, if_neg h3, rdInts_intsW l rest (by omega) or, cu h0, cn h1 h2, cb (by omega) (by omega)]

theorem lread_enc (b : Nat) (v : Value) (bs : List UInt8) (m : V) (ok : m.Ok) (can : m.Can) (rest : List UInt8) (w : World) (hR : Rst w b v bs (.ok (m.enc ++ rest))) (hl : bs.length ≤ 1099511627776) :
    Calls Try.prog 23 #[.pointer (some ⟨b, 0, none⟩), .int .i64 m.k] w (VPost w b v bs (m, .ok rest)) := by
  have h := lread_any b v bs _ m.k w hR hl
  rwa [rdV_enc m ok can rest] at h

theorem encs_drop (ms : VL) (i : Nat) (hi : i < ms.length) : encs (ms.drop i) = ms[i].1.enc ++ encs (ms.drop (i + 1)) := by
  rw [List.drop_eq_getElem_cons hi]
  rfl
end Go.Proofs.Ytofgcoapbocneaa
