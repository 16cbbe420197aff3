/- Package proto, plain: messages, their cores and frames, and what is read back. -/
import Derived.Test.YtadhghikanjkeaaRdI
import Derived.Test.YtadhghikanjkeaaHashM
namespace Go.Proofs.Ytadhghikanjkeaa
open Go.RowKit

structure F3 where
  r : Int
  s : Int
  e : Int
structure Msg where
  k : Int
  c : Int
  v : Int
  o : Int
  body : List UInt8
  fnd : List F3
def Msg.zero : Msg := ⟨0, 0, 0, 0, [], []⟩
def F3.cells (f : F3) : List Value := [.int .i64 f.r, .int .i64 f.s, .int .i64 f.e]
def fcells (l : List F3) : List Value := l.flatMap F3.cells
theorem fcells_len (l : List F3) : (fcells l).length = l.length * 3 := by
  induction l with
  | nil => rfl
  | cons f l ih =>
    have : fcells (f :: l) = f.cells ++ fcells l := rfl
    rw [this, List.length_append, ih, List.length_cons]
    simp [F3.cells]
    omega

def inR (n lo hi : Int) : Bool := decide (lo ≤ n ∧ n ≤ hi)
theorem inR_iff {n lo hi : Int} : inR n lo hi = true ↔ lo ≤ n ∧ n ≤ hi := by simp [inR]
def F3.ok (f : F3) : Bool := inR f.r (-1099511627776) 1099511627776 && inR f.s (-1099511627776) 1099511627776 && inR f.e (-1099511627776) 1099511627776
def headM (m : Msg) : Bool := inR m.k 0 6 && inR m.c 0 1099511627776 && inR m.v (-1) 1024 && inR m.o 0 1000 && decide (m.body.length ≤ 65536) && decide (m.fnd.length ≤ 1024)
def validM (m : Msg) : Bool := headM m && m.fnd.all F3.ok
def foundW (l : List F3) : List UInt8 := l.flatMap fun f => zvar f.r ++ (zvar f.s ++ zvar f.e)
def coreP (m : Msg) : List UInt8 := zvar m.k ++ (zvar m.c ++ (zvar m.v ++ (zvar m.o ++ (rawW m.body ++ (zvar (m.fnd.length : Int) ++ foundW m.fnd)))))
/-- A number's lowest bytes. -/
def lowL : Nat → Nat → List UInt8
  | 0, _ => []
  | k + 1, n => UInt8.ofNat n :: lowL k (n / 256)
theorem lowL_len (k n : Nat) : (lowL k n).length = k := by
  induction k generalizing n with
  | zero => rfl
  | succ k ih => rw [lowL, List.length_cons, ih]
theorem lowL_inj {k m n : Nat} (hm : m < 256 ^ k) (hn : n < 256 ^ k) (h : lowL k m = lowL k n) : m = n := by
  induction k generalizing m n with
  | zero => simp only [Nat.pow_zero] at hm hn; omega
  | succ k ih =>
    rw [lowL, lowL, List.cons.injEq] at h
    have h1 := congrArg UInt8.toNat h.1
    rw [UInt8.toNat_ofNat', UInt8.toNat_ofNat'] at h1
    rw [Nat.pow_succ] at hm hn
    have := ih (m := m / 256) (n := n / 256) (by rw [Nat.div_lt_iff_lt_mul (by omega)]; exact hm) (by rw [Nat.div_lt_iff_lt_mul (by omega)]; exact hn) h.2
    omega
def leVal : List UInt8 → Nat
  | [] => 0
  | b :: bs => b.toNat + 256 * leVal bs
theorem leVal_low (k n : Nat) : leVal (lowL k n) = n % 256 ^ k := by
  induction k generalizing n with
  | zero => simp [lowL, leVal, Nat.mod_one]
  | succ k ih =>
    have e : 256 ^ (k + 1) = 256 * 256 ^ k := by rw [Nat.pow_succ, Nat.mul_comm]
    rw [lowL, leVal, ih, UInt8.toNat_ofNat', e]
    exact (Nat.mod_mul).symm
theorem leVal_lt (bs : List UInt8) : leVal bs < 256 ^ bs.length := by
  induction bs with
  | nil => simp [leVal]
  | cons b bs ih =>
    have := b.toNat_lt
    rw [leVal, List.length_cons, Nat.pow_succ]
    omega
theorem low_leVal (bs : List UInt8) : lowL bs.length (leVal bs) = bs := by
  induction bs with
  | nil => rfl
  | cons b bs ih =>
    have hb := b.toNat_lt
    have e1 : (b.toNat + 256 * leVal bs) / 256 = leVal bs := by omega
    have e2 : UInt8.ofNat (b.toNat + 256 * leVal bs) = b := by
      apply UInt8.toNat_inj.1
      rw [UInt8.toNat_ofNat']
      omega
    rw [List.length_cons, lowL, leVal, e1, e2, ih]
def lenL : List UInt8 := [108, 101, 110, 103, 116, 104]
def msgL : List UInt8 := [109, 101, 115, 115, 97, 103, 101]
def lenH (n : Int) : List UInt8 := lowL 8 (sumI lenL [n]).toNat
def coreH (c : List UInt8) : List UInt8 := lowL 8 (bytesB msgL c).toNat
def framedP (c : List UInt8) : List UInt8 := lowL 4 c.length ++ (lenH c.length ++ (c ++ coreH c))
theorem lenH_len (n : Int) : (lenH n).length = 8 := lowL_len _ _
theorem coreH_len (c : List UInt8) : (coreH c).length = 8 := lowL_len _ _
theorem framedP_len (c : List UInt8) : (framedP c).length = c.length + 20 := by
  rw [framedP]; simp only [List.length_append, lowL_len, lenH_len, coreH_len]; omega

/-- n times three numbers. -/
def rd3 : Nat → RS → List F3 × RS
  | 0, s => ([], s)
  | n + 1, s =>
    let a := rdI s
    let b := rdI a.2
    let c := rdI b.2
    (⟨a.1, b.1, c.1⟩ :: (rd3 n c.2).1, (rd3 n c.2).2)
/-- What is read ahead of the list: the message without it, how many are to come, and the state. -/
def rdHead (c : List UInt8) : Msg × Int × RS :=
  let a := rdI (.ok c)
  let b := rdI a.2
  let d := rdI b.2
  let e := rdI d.2
  let f := rdRaw e.2
  let g := rdI f.2
  (⟨a.1, b.1, d.1, e.1, f.1, []⟩, g.1, g.2)
def decC (c : List UInt8) : Option Msg :=
  let h := rdHead c
  if h.2.1 < 0 ∨ 1024 < h.2.1 then none else
  let l := rd3 h.2.1.toNat h.2.2
  let m := { h.1 with fnd := l.1 }
  if rdEnd l.2 = 0 ∧ validM m = true then some m else none

theorem rd3_found (l : List F3) (rest : List UInt8) (h : ∀ f ∈ l, F3.ok f = true) : rd3 l.length (.ok (foundW l ++ rest)) = (l, .ok rest) := by
  induction l with
  | nil => rfl
  | cons f l ih =>
    have hf := h f (by simp)
    simp only [F3.ok, Bool.and_eq_true, inR_iff] at hf
    have e : foundW (f :: l) ++ rest = zvar f.r ++ (zvar f.s ++ (zvar f.e ++ (foundW l ++ rest))) := by
      simp [foundW, List.append_assoc]
    rw [List.length_cons, rd3, e, rdI_zvar f.r _ (by omega)]
    simp only
    rw [rdI_zvar f.s _ (by omega)]
    simp only
    rw [rdI_zvar f.e _ (by omega)]
    simp only
    rw [ih (fun x hx => h x (by simp [hx]))]
theorem rdHead_core (m : Msg) (h : validM m = true) : rdHead (coreP m) = ({ m with fnd := [] }, (m.fnd.length : Int), .ok (foundW m.fnd)) := by
  simp only [validM, headM, Bool.and_eq_true, inR_iff, decide_eq_true_eq] at h
  unfold rdHead coreP
  simp only
  rw [rdI_zvar m.k _ (by omega)]
  simp only
  rw [rdI_zvar m.c _ (by omega)]
  simp only
  rw [rdI_zvar m.v _ (by omega)]
  simp only
  rw [rdI_zvar m.o _ (by omega)]
  simp only
  rw [rdRaw_rawW m.body _ (by omega)]
  simp only
  rw [rdI_zvar (m.fnd.length : Int) _ (by omega)]
theorem decC_core (m : Msg) (h : validM m = true) : decC (coreP m) = some m := by
  have h0 := h
  simp only [validM, headM, Bool.and_eq_true, inR_iff, decide_eq_true_eq] at h
  unfold decC
  rw [rdHead_core m h0]
  simp only
  rw [if_neg (by omega), Int.toNat_natCast]
  have h3 := rd3_found m.fnd [] (List.all_eq_true.1 h.2)
  rw [List.append_nil] at h3
  rw [h3]
  simp only
  rw [if_pos ⟨rfl, h0⟩]
theorem rdI_err (e : Int) : rdI (.error e) = (0, .error e) := by simp [rdI, rdU, back]
theorem rdRaw_err (e : Int) : rdRaw (.error e) = ([], .error e) := rfl
theorem rd3_err (n : Nat) (e : Int) : (rd3 n (.error e)).2 = .error e := by
  induction n with
  | zero => rfl
  | succ n ih => rw [rd3]; simp only [rdI_err]; exact ih
theorem rdI_ok {s : RS} {n : Int} {r : List UInt8} (h : rdI s = (n, .ok r)) : s = .ok (zvar n ++ r) := by
  cases s with
  | error e => rw [rdI_err] at h; cases h
  | ok l => rw [rdI_inv l h]
theorem rdRaw_ok {s : RS} {b : List UInt8} {r : List UInt8} (h : rdRaw s = (b, .ok r)) : s = .ok (rawW b ++ r) := by
  cases s with
  | error e => rw [rdRaw_err] at h; cases h
  | ok l => rw [rdRaw_inv l h]
theorem rd3_ok (n : Nat) {s : RS} {l : List F3} {r : List UInt8} (h : rd3 n s = (l, .ok r)) : s = .ok (foundW l ++ r) ∧ l.length = n := by
  induction n generalizing s l r with
  | zero => cases h; exact ⟨rfl, rfl⟩
  | succ n ih =>
    rw [rd3] at h
    simp only [Prod.mk.injEq] at h
    obtain ⟨rfl, h2⟩ := h
    rcases ha : rdI s with ⟨a, s1⟩
    rw [ha] at h2
    simp only at h2
    rcases hb : rdI s1 with ⟨b, s2⟩
    rw [hb] at h2
    simp only at h2
    rcases hc : rdI s2 with ⟨c, s3⟩
    rw [hc] at h2
    simp only at h2
    obtain ⟨h4, h5⟩ := ih (l := (rd3 n s3).1) (s := s3) (r := r) (Prod.ext rfl h2)
    rw [h4] at hc
    have q1 := rdI_ok hc
    rw [q1] at hb
    have q2 := rdI_ok hb
    rw [q2] at ha
    have q3 := rdI_ok ha
    simp only [q3]
    rw [h4] at *
    refine ⟨?_, by rw [List.length_cons]; simp only [ha, hb, hc] at *; exact congrArg (· + 1) h5⟩
    simp [foundW, List.append_assoc]
/-- Whatever was read and has come to its end is the core of what it reads as. -/
theorem head_ok {c : List UInt8} {m : Msg} {n : Int} {s : RS} (h : rdHead c = (m, n, s)) {r : List UInt8} (hs : s = .ok r) : c = zvar m.k ++ (zvar m.c ++ (zvar m.v ++ (zvar m.o ++ (rawW m.body ++ (zvar n ++ r))))) ∧ m.fnd = [] := by
  subst hs
  unfold rdHead at h
  simp only [Prod.mk.injEq] at h
  obtain ⟨rfl, h1, h2⟩ := h
  rcases ha : rdI (.ok c) with ⟨a, s1⟩
  rcases hb : rdI s1 with ⟨b, s2⟩
  rcases hd : rdI s2 with ⟨d, s3⟩
  rcases he : rdI s3 with ⟨e, s4⟩
  rcases hf : rdRaw s4 with ⟨f, s5⟩
  rcases hg : rdI s5 with ⟨g, s6⟩
  simp only [ha, hb, hd, he, hf, hg] at h1 h2 ⊢
  subst h1 h2
  have q5 := rdI_ok hg
  rw [q5] at hf
  have q4 := rdRaw_ok hf
  rw [q4] at he
  have q3 := rdI_ok he
  rw [q3] at hd
  have q2 := rdI_ok hd
  rw [q2] at hb
  have q1 := rdI_ok hb
  rw [q1] at ha
  exact ⟨rdI_inv c ha, trivial⟩
theorem rdEnd_ok {s : RS} (h : rdEnd s = 0) (hn : ∀ e, s = .error e → e ≠ 0) : s = .ok [] := by
  cases s with
  | error e => exact absurd h (hn e rfl)
  | ok l =>
    cases l with
    | nil => rfl
    | cons a l => exact absurd h (by simp [rdEnd])

/-- An error that was recorded is one. -/
def Good (s : RS) : Prop := ∀ e, s = .error e → e ≠ 0
theorem good_ok (l : List UInt8) : Good (.ok l) := fun e h => by cases h
theorem pU_err (i : Nat) (l : List UInt8) {e : Int} (h : pU i l = .error e) : e ≠ 0 := by
  induction l generalizing i e with
  | nil => cases h; decide
  | cons c cs ih =>
    rw [pU] at h
    split at h
    · cases h; decide
    split at h
    · cases h
    · cases hp : pU (i + 1) cs with
      | error e' => rw [hp] at h; cases h; exact ih _ hp
      | ok x => rw [hp] at h; cases h
theorem good_rdU {s : RS} (h : Good s) : Good (rdU s).2 := by
  cases s with
  | error e => exact h
  | ok l =>
    intro e he
    have he2 : (ofP (pU 0 l)).2 = .error e := he
    cases hp : pU 0 l with
    | error e' => rw [hp] at he2; cases he2; exact pU_err 0 l hp
    | ok x => rw [hp] at he2; cases he2
theorem good_rdI {s : RS} (h : Good s) : Good (rdI s).2 := good_rdU h
theorem good_rdRaw {s : RS} (h : Good s) : Good (rdRaw s).2 := by
  rcases rdRaw_cases s with ⟨e, h1, h2⟩ | ⟨r, _, _, h2⟩ | ⟨r, _, _, h2⟩
  · rw [h2]; intro e' he; cases he; exact good_rdU h e h1
  · rw [h2]; intro e' he; cases he; decide
  · rw [h2]; exact good_ok _
theorem good_rd3 (n : Nat) {s : RS} (h : Good s) : Good (rd3 n s).2 := by
  induction n generalizing s with
  | zero => exact h
  | succ n ih => rw [rd3]; exact ih (good_rdI (good_rdI (good_rdI h)))
theorem good_head (c : List UInt8) : Good (rdHead c).2.2 := good_rdI (good_rdRaw (good_rdI (good_rdI (good_rdI (good_rdI (good_ok c))))))

/-- What follows the head of a core that was read to its end. -/
theorem core_of {c : List UInt8} {k : Nat} (he : rdEnd (rd3 k (rdHead c).2.2).2 = 0) :
    c = zvar (rdHead c).1.k ++ (zvar (rdHead c).1.c ++ (zvar (rdHead c).1.v ++ (zvar (rdHead c).1.o ++ (rawW (rdHead c).1.body ++ (zvar (rdHead c).2.1 ++ foundW (rd3 k (rdHead c).2.2).1))))) ∧ (rd3 k (rdHead c).2.2).1.length = k := by
  have h1 := rdEnd_ok he (good_rd3 k (good_head c))
  obtain ⟨h2, h3⟩ := rd3_ok k (s := (rdHead c).2.2) (l := (rd3 k (rdHead c).2.2).1) (r := []) (Prod.ext rfl h1)
  have h4 := (head_ok (c := c) (m := (rdHead c).1) (n := (rdHead c).2.1) (s := (rdHead c).2.2) rfl h2).1
  rw [List.append_nil] at h4
  exact ⟨h4, h3⟩
theorem decC_inv {c : List UInt8} {m : Msg} (h : decC c = some m) : c = coreP m ∧ validM m = true := by
  unfold decC at h
  simp only at h
  split at h
  · cases h
  · rename_i hr
    split at h
    · rename_i hc
      obtain ⟨h1, h2⟩ := core_of hc.1
      cases h
      refine ⟨?_, hc.2⟩
      rw [coreP]
      simp only
      rw [h2]
      have e : (((rdHead c).2.1.toNat : Nat) : Int) = (rdHead c).2.1 := by omega
      rw [e]
      exact h1
    · cases h
/-- As the model decodes: it takes back only what encodes to the same. -/
def decR (c : List UInt8) : Option Msg :=
  let h := rdHead c
  let l := rd3 (min h.2.1 1025).toNat h.2.2
  let m := { h.1 with fnd := l.1 }
  if rdEnd l.2 = 0 ∧ validM m = true ∧ coreP m = c then some m else none
theorem decR_eq (c : List UInt8) : decR c = decC c := by
  cases h : decC c with
  | some m =>
    obtain ⟨rfl, hv⟩ := decC_inv h
    have hv0 := hv
    simp only [validM, headM, Bool.and_eq_true, inR_iff, decide_eq_true_eq] at hv0
    unfold decR
    rw [rdHead_core m hv]
    simp only
    have e : (min (m.fnd.length : Int) 1025).toNat = m.fnd.length := by omega
    have h3 := rd3_found m.fnd [] (List.all_eq_true.1 hv0.2)
    rw [List.append_nil] at h3
    rw [e, h3]
    simp only
    rw [if_pos ⟨rfl, hv, by first | rfl | trivial⟩]
  | none =>
    unfold decR
    simp only
    split
    · rename_i hc
      have := decC_core _ hc.2.1
      rw [hc.2.2, h] at this
      cases this
    · rfl

/-- Decode: the message, how many bytes, the error. -/
def decP (b : List UInt8) : Msg × Nat × Int :=
  if b.length < 12 then (Msg.zero, 0, 3) else
  let n := leVal (b.take 4)
  if lenH n ≠ (b.drop 4).take 8 then (Msg.zero, 0, 13) else
  if 1048576 < n then (Msg.zero, 0, 4) else
  if b.length < n + 20 then (Msg.zero, 0, 3) else
  let c := (b.drop 12).take n
  if coreH c ≠ (b.drop (n + 12)).take 8 then (Msg.zero, 0, 13) else
  match decC c with
  | none => (Msg.zero, 0, 2)
  | some m => (m, n + 20, 0)
theorem decP_framed (c t : List UInt8) (hc : c.length ≤ 1048576) : decP (framedP c ++ t) = match decC c with
    | none => (Msg.zero, 0, 2)
    | some m => (m, c.length + 20, 0) := by
  have e0 : framedP c ++ t = lowL 4 c.length ++ (lenH c.length ++ (c ++ (coreH c ++ t))) := by rw [framedP]; simp only [List.append_assoc]
  have e1 : (framedP c ++ t).take 4 = lowL 4 c.length := by rw [e0, List.take_append_of_le_length (by rw [lowL_len]; omega), List.take_of_length_le (by rw [lowL_len]; omega)]
  have e2 : leVal (lowL 4 c.length) = c.length := by rw [leVal_low]; exact Nat.mod_eq_of_lt (by omega)
  have e3 : (framedP c ++ t).drop 4 = lenH c.length ++ (c ++ (coreH c ++ t)) := by
    rw [e0, List.drop_append_of_le_length (by rw [lowL_len]; omega), List.drop_of_length_le (by rw [lowL_len]; omega), List.nil_append]
  have e4 : ((framedP c ++ t).drop 4).take 8 = lenH c.length := by rw [e3, List.take_append_of_le_length (by rw [lenH_len]; omega), List.take_of_length_le (by rw [lenH_len]; omega)]
  have e5 : (framedP c ++ t).drop 12 = c ++ (coreH c ++ t) := by
    have : (framedP c ++ t).drop 12 = ((framedP c ++ t).drop 4).drop 8 := by rw [List.drop_drop]
    rw [this, e3, List.drop_append_of_le_length (by rw [lenH_len]; omega), List.drop_of_length_le (by rw [lenH_len]; omega), List.nil_append]
  have e6 : ((framedP c ++ t).drop 12).take c.length = c := by rw [e5, List.take_left]
  have e7 : ((framedP c ++ t).drop (c.length + 12)).take 8 = coreH c := by
    have : (framedP c ++ t).drop (c.length + 12) = ((framedP c ++ t).drop 12).drop c.length := by rw [List.drop_drop, Nat.add_comm]
    rw [this, e5, List.drop_left, List.take_append_of_le_length (by rw [coreH_len]; omega), List.take_of_length_le (by rw [coreH_len]; omega)]
  have hl : (framedP c ++ t).length = c.length + 20 + t.length := by rw [List.length_append, framedP_len]
  unfold decP
  simp only [e1, e2, e4, e6, e7, hl]
  rw [if_neg (by omega), if_neg (by simp), if_neg (by omega), if_neg (by omega), if_neg (by simp)]
end Go.Proofs.Ytadhghikanjkeaa
