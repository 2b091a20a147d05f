/-
  What Parse reads, in plain Lean: no program in sight.
-/
import Derived.Test.YtdfiblaboddbjaaGreatDoorMagSort
import Derived.Test.YtdfiblaboddbjaaGreatDoorMagUnr
import Derived.Lib.ItoaNum
import Derived.Lib.AtoiTie
import Derived.Lib.AtoiAllCases
namespace Go.Proofs.YtdfiblaboddbjaaGreatDoor.Prs
open Go.RowKit Go.Proofs.YtdfiblaboddbjaaGreatDoor.Base Go.Proofs.YtdfiblaboddbjaaGreatDoor.Rep Go.Proofs.YtdfiblaboddbjaaGreatDoor.Mag Go.Proofs.YtdfiblaboddbjaaGreatDoor.Has
set_option linter.unusedVariables false
set_option linter.unusedSimpArgs false

/-- A link under way. -/
structure Pk where
  info : List UInt8
  name : ByteArray
  trackers : List ByteArray
  peers : List ByteArray
  only : List (Int × Int)
  more : List (ByteArray × ByteArray)

def Pk.bare : Pk := ⟨List.replicate 32 0, ⟨#[]⟩, [], [], [], []⟩
def moreV (s : ByteArray) : V := .mk 2 0 s 0 (fun _ => .leaf) 0 (fun _ => ⟨#[]⟩) (fun _ => .leaf)
def Pk.lk (P : Pk) : Lk := ⟨P.info, P.name, P.trackers, P.peers, P.only, P.more.length, fun j => (P.more.getD j (⟨#[]⟩, ⟨#[]⟩)).1, fun j => moreV (P.more.getD j (⟨#[]⟩, ⟨#[]⟩)).2⟩

def lowL : List UInt8 := [48, 49, 50, 51, 52, 53, 54, 55, 56, 57, 97, 98, 99, 100, 101, 102]
/-- a small hexadecimal digit's value, 16: it is none -/
def lowV (c : UInt8) : Nat := if plc lowL c.toNat < 0 then 16 else (plc lowL c.toNat).toNat
def unhexL : List UInt8 → Option (List UInt8)
  | [] => some []
  | [_] => none
  | a :: b :: r => if lowV a = 16 ∨ lowV b = 16 then none else (unhexL r).map (UInt8.ofNat (16 * lowV a + lowV b) :: ·)

def newHash : List UInt8 := [117, 114, 110, 58, 98, 116, 109, 104, 58, 49, 50, 50, 48]
def oldHash : List UInt8 := [117, 114, 110, 58, 98, 116, 105, 104, 58]
def begins : List UInt8 := [109, 97, 103, 110, 101, 116, 58, 63]
/-- the infohash that the value of xt tells -/
def firstH (v : List UInt8) : Option (List UInt8) := if v.length = 77 ∧ newHash.isPrefixOf v = true then unhexL (v.drop 13) else none

def isDig (c : UInt8) : Bool := decide (48 ≤ c.toNat ∧ c.toNat ≤ 57)
def valD (l : List UInt8) : Nat := l.foldl (fun a c => 10 * a + (c.toNat - 48)) 0
/-- a number below 4096, as it is written -/
def numS (l : List UInt8) : Option Nat := if l.all isDig = true ∧ l ≠ [] ∧ l.length ≤ 4 ∧ (l.head? = some 48 → l.length = 1) ∧ valD l < 4096 then some (valD l) else none
/-- the digits at the head, five at most -/
def digs (l : List UInt8) : List UInt8 := (l.take 5).takeWhile isDig
/-- one run at the head, and what is left behind it -/
def run1 (l : List UInt8) : Option ((Int × Int) × List UInt8) :=
  match numS (digs l) with
  | none => none
  | some a =>
    let r := l.drop (digs l).length
    if r.head? = some 45 then
      match numS (digs r.tail) with
      | none => none
      | some b => if b ≤ a then none else some (((a : Int), (b : Int) - a + 1), r.tail.drop (digs r.tail).length)
    else some (((a : Int), 1), r)
/-- the runs of the value of so -/
def runsF : Nat → List UInt8 → Option (List (Int × Int))
  | 0, _ => none
  | f + 1, l =>
    match run1 l with
    | none => none
    | some (r, rest) =>
      match rest with
      | [] => some [r]
      | c :: rest' => if c = 44 then (runsF f rest').map (r :: ·) else none
def runsS (l : List UInt8) : Option (List (Int × Int)) := runsF (l.length + 1) l

/-- whether a parameter may stand here -/
noncomputable def placeE (P : Pk) (n : Nat) (last key value : ByteArray) : Int :=
  if n = 0 ∧ kindI key ≠ 0 then 223
  else if kindI key = 0 then (if oldHash.isPrefixOf value.data.toList = true then 224 else if 0 < n then 225 else 0)
  else if kindI key < kindI last then 227
  else if ((kindI key = 1 ∨ kindI key = 2) ∧ kindI last = kindI key) ∨ (kindI key = 3 ∧ hasB P.trackers value = true) ∨ (kindI key = 4 ∧ hasB P.peers value = true) ∨ (kindI key = 5 ∧ last = key) then 225
  else if kindI key = 5 ∧ kindI last = 5 ∧ lessB last key = false then 227
  else 0

/-- the link with a parameter more -/
noncomputable def holdP (P : Pk) (key value : ByteArray) : Pk × Int :=
  if kindI key = 0 then (match firstH value.data.toList with | some h => ({ P with info := h }, 0) | none => (P, 223))
  else if (kindI key = 1 ∨ kindI key = 3 ∨ kindI key = 4) ∧ value = ⟨#[]⟩ then (P, 226)
  else if kindI key = 1 then ({ P with name := value }, 0)
  else if kindI key = 2 then (match runsS value.data.toList with | none => (P, 226) | some l => if T (apartP l) then ({ P with only := l }, 0) else (P, 227))
  else if kindI key = 3 then ({ P with trackers := P.trackers ++ [value] }, 0)
  else if kindI key = 4 then ({ P with peers := P.peers ++ [value] }, 0)
  else ({ P with more := P.more ++ [(key, value)] }, 0)

/-- one part: the link, the key, the place of a fault in it, the error -/
noncomputable def stepP (P : Pk) (n : Nat) (last : ByteArray) (p : List UInt8) : Pk × ByteArray × Int × Int :=
  if plc p 61 < 1 then (P, ⟨#[]⟩, 0, 226)
  else match une 0 (p.take (plc p 61).toNat) with
    | .error i => (P, ⟨#[]⟩, (i : Int), 222)
    | .ok kl => match une 0 (p.drop ((plc p 61).toNat + 1)) with
      | .error i => (P, ⟨#[]⟩, plc p 61 + 1 + i, 222)
      | .ok vl =>
        if placeE P n last ⟨kl.toArray⟩ ⟨vl.toArray⟩ ≠ 0 then (P, ⟨#[]⟩, 0, placeE P n last ⟨kl.toArray⟩ ⟨vl.toArray⟩)
        else ((holdP P ⟨kl.toArray⟩ ⟨vl.toArray⟩).1, ⟨kl.toArray⟩, 0, (holdP P ⟨kl.toArray⟩ ⟨vl.toArray⟩).2)

noncomputable def parseF : Nat → List UInt8 → Nat → Pk → Nat → ByteArray → Pk × Int × Int
  | 0, _, _, _, _, _ => (Pk.bare, 0, 0)
  | f + 1, rest, o, P, n, last =>
    match rest.findIdx? (fun b => b == 38) with
    | none =>
      if (stepP P n last rest).2.2.2 ≠ 0 then (Pk.bare, (o : Int) + (stepP P n last rest).2.2.1, (stepP P n last rest).2.2.2) else ((stepP P n last rest).1, 0, 0)
    | some q =>
      if (stepP P n last (rest.take q)).2.2.2 ≠ 0 then (Pk.bare, (o : Int) + (stepP P n last (rest.take q)).2.2.1, (stepP P n last (rest.take q)).2.2.2)
      else parseF f (rest.drop (q + 1)) (o + q + 1) (stepP P n last (rest.take q)).1 (n + 1) (stepP P n last (rest.take q)).2.1
noncomputable def parseS (s : List UInt8) : Pk × Int × Int :=
  if 4096 < s.length then (Pk.bare, 0, 221) else if begins.isPrefixOf s = true then parseF (s.length + 1) (s.drop 8) 8 Pk.bare 0 ⟨#[]⟩ else (Pk.bare, 0, 220)

theorem valD_snoc (l : List UInt8) (c : UInt8) : valD (l ++ [c]) = 10 * valD l + (c.toNat - 48) := by simp [valD]
theorem isDig_iff (c : UInt8) : isDig c = true ↔ 48 ≤ c.toNat ∧ c.toNat ≤ 57 := by simp [isDig]

theorem list_snoc {α : Type} (l : List α) (h : l ≠ []) : ∃ l' c, l = l' ++ [c] := ⟨l.dropLast, l.getLast h, (List.dropLast_concat_getLast h).symm⟩

theorem decD_step (u d : Nat) (hu : 1 ≤ u) (hd : d < 10) : Lib.decDigits (10 * u + d) = Lib.decDigits u ++ [UInt8.ofNat (48 + d)] := by
  rw [Lib.decDigits, dif_neg (by omega)]
  congr 2
  · congr 1; omega
  · congr 2; omega
theorem ofNat_dig (c : UInt8) (h : 48 ≤ c.toNat ∧ c.toNat ≤ 57) : UInt8.ofNat (48 + (c.toNat - 48)) = c := by
  rw [show 48 + (c.toNat - 48) = c.toNat by omega]; simp

/-- Numerals without a zero ahead spell themselves. -/
theorem decD_val : ∀ (n : Nat) (l : List UInt8), l.length = n + 1 → l.all isDig = true → l.head? ≠ some 48 → 1 ≤ valD l ∧ Lib.decDigits (valD l) = l
  | 0, l, hl, hd, hh => by
    match l, hl with
    | [c], _ =>
      have h1 : 48 ≤ c.toNat ∧ c.toNat ≤ 57 := (isDig_iff c).1 (by simpa using hd)
      have h2 : c ≠ 48 := fun e => hh (by simp [e])
      have h3 : c.toNat ≠ 48 := fun e => h2 (by rw [← UInt8.toNat_inj]; exact e)
      refine ⟨by simp [valD]; omega, ?_⟩
      rw [Lib.decDigits, dif_pos (by simp [valD]; omega)]
      simp only [valD, List.foldl_cons, List.foldl_nil, Nat.mul_zero, Nat.zero_add]
      rw [ofNat_dig c h1]
  | n + 1, l, hl, hd, hh => by
    obtain ⟨l', c, rfl⟩ := list_snoc l (by intro e; rw [e] at hl; cases hl)
    have hl' : l'.length = n + 1 := by simpa using hl
    have hne : l' ≠ [] := by intro e; rw [e] at hl'; cases hl'
    rw [List.all_append, Bool.and_eq_true] at hd
    have hc : 48 ≤ c.toNat ∧ c.toNat ≤ 57 := (isDig_iff c).1 (by simpa using hd.2)
    have hh' : l'.head? ≠ some 48 := by
      intro e; apply hh; rw [List.head?_append, e]; rfl
    obtain ⟨h1, h2⟩ := decD_val n l' hl' hd.1 hh'
    rw [valD_snoc]
    refine ⟨by omega, ?_⟩
    rw [decD_step _ _ h1 (by omega), h2, ofNat_dig c hc]

theorem decD_all (u : Nat) : (Lib.decDigits u).all isDig = true ∧ valD (Lib.decDigits u) = u ∧ Lib.decDigits u ≠ [] ∧ (10 ≤ u → (Lib.decDigits u).head? ≠ some 48) := by
  induction u using Nat.strongRecOn with
  | ind u ih =>
    by_cases h : u < 10
    · rw [Lib.decDigits, dif_pos h]
      have ht : (UInt8.ofNat (48 + u)).toNat = 48 + u := by rw [UInt8.toNat_ofNat_of_lt' (by show 48 + u < 256; omega)]
      refine ⟨by simp only [List.all_cons, List.all_nil, Bool.and_true, isDig, ht]; simp; omega, by simp only [valD, List.foldl_cons, List.foldl_nil, ht]; omega, by simp, fun h' => by omega⟩
    · have hq : u = 10 * (u / 10) + u % 10 := by omega
      obtain ⟨h1, h2, h3, h4⟩ := ih (u / 10) (by omega)
      have he : Lib.decDigits u = Lib.decDigits (u / 10) ++ [UInt8.ofNat (48 + u % 10)] := by rw [Lib.decDigits, dif_neg h]
      have ht : (UInt8.ofNat (48 + u % 10)).toNat = 48 + u % 10 := by rw [UInt8.toNat_ofNat_of_lt' (by show 48 + u % 10 < 256; omega)]
      rw [he]
      refine ⟨?_, ?_, by simp, fun _ => ?_⟩
      · rw [List.all_append, h1]; simp [isDig, ht]; omega
      · rw [valD_snoc, h2, ht]; omega
      · rw [List.head?_append]
        by_cases h10 : 10 ≤ u / 10
        · have := h4 h10
          cases hx : (Lib.decDigits (u / 10)).head? with
          | none => rw [List.head?_eq_none_iff] at hx; exact absurd hx h3
          | some y => rw [hx] at this; simpa using this
        · rw [Lib.decDigits, dif_pos (by omega)]
          have ht' : (UInt8.ofNat (48 + u / 10)).toNat = 48 + u / 10 := by rw [UInt8.toNat_ofNat_of_lt' (by show 48 + u / 10 < 256; omega)]
          simp only [List.head?_cons, Option.some_or, ne_eq, Option.some.injEq]
          intro e
          have := congrArg UInt8.toNat e
          rw [ht'] at this
          have e48 : (48 : UInt8).toNat = 48 := rfl
          omega

theorem numS_some {l : List UInt8} {n : Nat} (h : numS l = some n) : n < 4096 ∧ Lib.itoa (n : Int) = l ∧ l.all isDig = true ∧ l ≠ [] ∧ l.length ≤ 4 ∧ valD l = n := by
  unfold numS at h
  split at h
  · rename_i hc
    obtain ⟨h1, h2, h3, h4, h5⟩ := hc
    injection h with h
    subst h
    refine ⟨h5, ?_, h1, h2, h3, rfl⟩
    unfold Lib.itoa
    rw [if_neg (by omega)]
    show Lib.decDigits (valD l) = l
    by_cases h48 : l.head? = some 48
    · have hl := h4 h48
      match l, hl with
      | [c], _ =>
        obtain rfl : c = 48 := by simpa using h48
        decide +kernel
    · obtain ⟨k, hk⟩ : ∃ k, l.length = k + 1 := ⟨l.length - 1, by have := List.length_pos_iff.2 h2; omega⟩
      exact (decD_val k l hk h1 h48).2
  · cases h

theorem numS_itoa {n : Nat} (h : n < 4096) : numS (Lib.itoa (n : Int)) = some n := by
  have he : Lib.itoa (n : Int) = Lib.decDigits n := by unfold Lib.itoa; rw [if_neg (by omega)]; rfl
  obtain ⟨h1, h2, h3, h4⟩ := decD_all n
  have hl : (Lib.decDigits n).length ≤ 4 := by
    rw [Lib.decDigits_length]
    by_cases a : n < 10
    · rw [Lib.nDigits_small a]; omega
    rw [Lib.nDigits_big a]
    by_cases b : n / 10 < 10
    · rw [Lib.nDigits_small b]; omega
    rw [Lib.nDigits_big b]
    by_cases c : n / 10 / 10 < 10
    · rw [Lib.nDigits_small c]; omega
    rw [Lib.nDigits_big c, Lib.nDigits_small (by omega)]; omega
  have h5 : (Lib.decDigits n).head? = some 48 → (Lib.decDigits n).length = 1 := fun h48 => by
    by_cases a : n < 10
    · rw [Lib.decDigits_length, Lib.nDigits_small a]
    · exact absurd h48 (h4 (by omega))
  rw [he]
  unfold numS
  rw [if_pos ⟨h1, h3, hl, h5, by rw [h2]; exact h⟩, h2]

theorem decFrom_val : ∀ (l : List UInt8) (acc : Nat), l.all isDig = true → Lib.decFrom acc l = some (l.foldl (fun a c => 10 * a + (c.toNat - 48)) acc)
  | [], acc, _ => rfl
  | c :: r, acc, h => by
    simp only [List.all_cons, Bool.and_eq_true] at h
    have hc := (isDig_iff c).1 h.1
    have := decFrom_val r (10 * acc + (c.toNat - 48)) h.2
    simp only [Lib.decFrom, Lib.digitVal, if_pos hc, List.foldl_cons]
    first | exact this | (rw [Nat.mul_comm 10 acc] at this ⊢; exact this)

/-- What the program's number asks of Atoi. -/
theorem atoi_num {l : List UInt8} {n : Nat} (h : numS l = some n) : Lib.atoiAll l = .ok (n : Int) := by
  obtain ⟨h1, h2, h3, h4, h5, h6⟩ := numS_some h
  match l, h4 with
  | c :: r, _ =>
    have hc := (isDig_iff c).1 (by simp at h3; exact h3.1)
    rw [Lib.atoiAll_plain c r (by omega) (by omega), Lib.signless_short (by omega)]
    unfold Lib.decNat
    rw [if_neg (by simp), decFrom_val _ 0 h3]
    show Lib.NumEnd.ofOption (some ((valD (c :: r) : Nat) : Int)) = _
    rw [h6]; rfl

end Go.Proofs.YtdfiblaboddbjaaGreatDoor.Prs
