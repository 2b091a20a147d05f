import Derived.Test.YtdfiblaboddbjaaGreatDoorMagHex
import Derived.Lib.Join
import Derived.Lib.ItoaLen
import Derived.Deep.DeepCutAuto
namespace Go.Proofs.YtdfiblaboddbjaaGreatDoor.Has
open Go.RowKit Go.Proofs.YtdfiblaboddbjaaGreatDoor.Base Go.Proofs.YtdfiblaboddbjaaGreatDoor.Rep Go.Proofs.YtdfiblaboddbjaaGreatDoor.Mag
set_option linter.unusedVariables false
set_option linter.unusedSimpArgs false

/-- The table of the library's that Itoa reads. -/
def PT (w : World) : Prop := Lib.TabIs Tryz.prog w "internal/strconv.uint64pow10" .u64 Lib.pow10Tab
theorem PT.keep {w w' : World} (h : PT w) (hb : Below w.heap.size w w') : PT w' := by
  unfold PT Lib.TabIs World.var? at h ⊢
  cases hg : Tryz.prog.globalNamed "internal/strconv.uint64pow10" with
  | none => rw [hg] at h; cases h
  | some g =>
    rw [hg] at h
    simp only [Option.bind_some] at h ⊢
    have hlt : g < w.heap.size := by
      rcases Nat.lt_or_ge g w.heap.size with h' | h'
      · exact h'
      · rw [Array.getElem?_eq_none h'] at h; cases h
    rw [hb.block g hlt]
    exact h

theorem below_grow' (w : World) (n : Nat) (os : Array Obj) : Below w.heap.size w (Sort.grow (w.drewN n) os) :=
  ⟨rfl, rfl, rfl, by show w.heap.size ≤ (w.heap ++ os).size; rw [Array.size_append]; omega, fun k hk => by
    show (w.heap ++ os)[k]? = w.heap[k]?
    rw [Array.getElem?_append_left hk]⟩

theorem itoaC (n : Int) (h0 : -9223372036854775808 ≤ n) (h1 : n ≤ 9223372036854775807) (w : World) (hp : PT w) :
    Calls Tryz.prog 56 #[.int .i64 n] w fun e w' => e = .returned (.string ⟨(Lib.itoa n).toArray⟩) ∧ Below w.heap.size w w' := by
  refine (Tryz.strconv_Itoa n h0 h1 w hp).mono ?_
  rintro e w' ⟨rfl, k, os, rfl⟩
  exact ⟨rfl, below_grow' w k os⟩

def numR (r : Int × Int) : List UInt8 := Lib.itoa r.1 ++ (if 1 < r.2 then 45 :: Lib.itoa (r.1 + r.2 - 1) else [])
def baseL (X : Lk) : List UInt8 := [109, 97, 103, 110, 101, 116, 58, 63, 120, 116, 61, 117, 114, 110, 58, 98, 116, 109, 104, 58, 49, 50, 50, 48] ++ hxL X.info
def nameL (X : Lk) : List UInt8 := baseL X ++ (if X.name = ⟨#[]⟩ then [] else [38, 100, 110, 61] ++ escL X.name.data.toList)
def soK (l : List (Int × Int)) : Nat → List UInt8
  | 0 => []
  | k + 1 => soK l k ++ (if k = 0 then [38, 115, 111, 61] else [44]) ++ numR (l.getD k (0, 0))
def trK (l : List ByteArray) (k : Nat) : List UInt8 := (l.take k).flatMap fun t => [38, 116, 114, 61] ++ escL t.data.toList
def peK (l : List ByteArray) (k : Nat) : List UInt8 := (l.take k).flatMap fun t => [38, 120, 46, 112, 101, 61] ++ escL t.data.toList
def prK (X : Lk) (k : Nat) : List UInt8 := (List.range k).flatMap fun j => 38 :: escL (X.xk j).data.toList ++ 61 :: escL (textV (X.xv j)).data.toList
def soL (X : Lk) : List UInt8 := nameL X ++ soK X.only X.only.length
def trL (X : Lk) : List UInt8 := soL X ++ trK X.trackers X.trackers.length
def peL (X : Lk) : List UInt8 := trL X ++ peK X.peers X.peers.length
def textL (X : Lk) : List UInt8 := peL X ++ prK X X.xn

theorem trK_succ (l : List ByteArray) (k : Nat) (h : k < l.length) : trK l (k + 1) = trK l k ++ ([38, 116, 114, 61] ++ escL l[k].data.toList) := by
  unfold trK; rw [ltake_snoc l k h, List.flatMap_append]; simp only [List.flatMap_cons, List.flatMap_nil, List.append_nil]
theorem peK_succ (l : List ByteArray) (k : Nat) (h : k < l.length) : peK l (k + 1) = peK l k ++ ([38, 120, 46, 112, 101, 61] ++ escL l[k].data.toList) := by
  unfold peK; rw [ltake_snoc l k h, List.flatMap_append]; simp only [List.flatMap_cons, List.flatMap_nil, List.append_nil]
theorem prK_succ (X : Lk) (k : Nat) : prK X (k + 1) = prK X k ++ (38 :: escL (X.xk k).data.toList ++ 61 :: escL (textV (X.xv k)).data.toList) := by
  unfold prK; rw [List.range_succ]; simp
theorem isEmpty_str (s : ByteArray) : s.toList.isEmpty = decide (s = ⟨#[]⟩) := by
  rw [← str_beq, Lib.toList_data ⟨#[]⟩]
  cases s.toList <;> rfl
theorem data_app (a b : ByteArray) : (a ++ b).data.toList = a.data.toList ++ b.data.toList := by simp

theorem numR_len (r : Int × Int) (h : 0 ≤ r.1 ∧ r.1 < 4096 ∧ 1 ≤ r.2 ∧ r.2 ≤ 4096 - r.1) : (numR r).length ≤ 43 := by
  have h1 := Lib.itoa_length_le r.1 (by omega) (by omega)
  have h2 := Lib.itoa_length_le (r.1 + r.2 - 1) (by omega) (by omega)
  unfold numR
  split <;> simp <;> omega
theorem soK_len (l : List (Int × Int)) (hw : whole l) : ∀ k, k ≤ l.length → (soK l k).length ≤ 47 * k
  | 0, _ => by simp [soK]
  | k + 1, h => by
    have ih := soK_len l hw k (by omega)
    have h1 := numR_len (l.getD k (0, 0)) (by
      have := hw k (by omega)
      simpa [List.getD, List.getElem?_eq_getElem (show k < l.length by omega)] using this)
    rw [soK]
    split <;> simp only [List.length_append, List.length_cons, List.length_nil] <;> omega
theorem nameL_len (X : Lk) (hi : X.info.length = 32) (hn : X.name.size ≤ 1048576) : (nameL X).length ≤ 3145820 := by
  have h1 := hxL_len X.info
  have h2 := escL_len X.name.data.toList
  have h3 : X.name.data.toList.length = X.name.size := by simp
  unfold nameL baseL
  split <;> simp <;> omega
theorem trK_len (l : List ByteArray) (hs : ∀ (j : Nat) (s : ByteArray), l[j]? = some s → s.size ≤ 1048576) : ∀ k, k ≤ l.length → (trK l k).length ≤ 3145732 * k
  | 0, _ => by simp [trK]
  | k + 1, h => by
    have ih := trK_len l hs k (by omega)
    have h1 := hs k l[k] (by simp [show k < l.length by omega])
    have h2 := escL_len l[k].data.toList
    have h3 : l[k].data.toList.length = l[k].size := by simp
    rw [trK_succ l k (by omega)]
    simp; omega
theorem peK_len (l : List ByteArray) (hs : ∀ (j : Nat) (s : ByteArray), l[j]? = some s → s.size ≤ 1048576) : ∀ k, k ≤ l.length → (peK l k).length ≤ 3145734 * k
  | 0, _ => by simp [peK]
  | k + 1, h => by
    have ih := peK_len l hs k (by omega)
    have h1 := hs k l[k] (by simp [show k < l.length by omega])
    have h2 := escL_len l[k].data.toList
    have h3 : l[k].data.toList.length = l[k].size := by simp
    rw [peK_succ l k (by omega)]
    simp; omega
theorem prK_len (X : Lk) (hs : ∀ j, j < X.xn → (X.xk j).size ≤ 1048576 ∧ (textV (X.xv j)).size ≤ 1048576) : ∀ k, k ≤ X.xn → (prK X k).length ≤ 6291458 * k
  | 0, _ => by simp [prK]
  | k + 1, h => by
    have ih := prK_len X hs k (by omega)
    have h1 := hs k (by omega)
    have h2 := escL_len (X.xk k).data.toList
    have h3 : (X.xk k).data.toList.length = (X.xk k).size := by simp
    have h4 := escL_len (textV (X.xv k)).data.toList
    have h5 : (textV (X.xv k)).data.toList.length = (textV (X.xv k)).size := by simp
    rw [prK_succ X k]
    simp; omega

theorem soL_len (X : Lk) (hi : X.info.length = 32) (hn : X.name.size ≤ 1048576) (hw : whole X.only) (h20 : X.only.length ≤ 1048576) : (soL X).length ≤ 67108864 := by
  have h1 := nameL_len X hi hn
  have h2 := soK_len X.only hw _ (Nat.le_refl _)
  unfold soL; rw [List.length_append]; omega
theorem trL_len (X : Lk) (hi : X.info.length = 32) (hn : X.name.size ≤ 1048576) (hw : whole X.only) (h20 : X.only.length ≤ 1048576) (h21 : X.trackers.length ≤ 1048576) (hs : ∀ (j : Nat) (s : ByteArray), X.trackers[j]? = some s → s.size ≤ 1048576) : (trL X).length ≤ 4398046511104 := by
  have h1 := soL_len X hi hn hw h20
  have h2 := trK_len X.trackers hs _ (Nat.le_refl _)
  unfold trL; rw [List.length_append]; omega
theorem peL_len (X : Lk) (hi : X.info.length = 32) (hn : X.name.size ≤ 1048576) (hw : whole X.only) (h20 : X.only.length ≤ 1048576) (h21 : X.trackers.length ≤ 1048576) (h22 : X.peers.length ≤ 1048576) (hs : ∀ (j : Nat) (s : ByteArray), X.trackers[j]? = some s → s.size ≤ 1048576) (hs' : ∀ (j : Nat) (s : ByteArray), X.peers[j]? = some s → s.size ≤ 1048576) : (peL X).length ≤ 8796093022208 := by
  have h1 := trL_len X hi hn hw h20 h21 hs
  have h2 := peK_len X.peers hs' _ (Nat.le_refl _)
  unfold peL; rw [List.length_append]; omega
theorem RS.small {w : World} {ok : Nat → Prop} {l : List ByteArray} {v : Value} (h : RS w ok l v) : ∀ (j : Nat) (s : ByteArray), l[j]? = some s → s.size ≤ 1048576 := by
  obtain ⟨a, c, rfl, hn, ⟨_, h20, hnil⟩, hh⟩ := h
  intro j s hj
  rcases hh with h0 | ⟨b, o, rfl, h⟩
  · rw [List.length_eq_zero_iff.1 h0] at hj; simp at hj
  · exact (h j s hj).2

/-- an owned row's cells -/
theorem own_cells {w : World} {B e : Nat} {v : Value} {l : List UInt8} (h : w.ownsRow B e 1 v l.length (Lib.byteCells l)) (h0 : l ≠ []) :
    ∃ g cap, v = .slice (some ⟨g, 0, none⟩) l.length cap ∧ l.length ≤ cap ∧ cap ≤ maxLen ∧ g < w.heap.size ∧ ∀ j (h : j < l.length), w.cell? ⟨g, 0 + j, none⟩ = some (.int .u8 l[j].toNat) := by
  obtain ⟨hl, h⟩ := h
  rcases h with ⟨rfl, hn⟩ | ⟨g, cap, cur, rfl, hB, hg, hn, hc, hz, hx⟩
  · exact absurd (List.length_eq_zero_iff.1 hn) h0
  · refine ⟨g, cap, rfl, hn, hc, (Array.getElem?_eq_some_iff.1 hg).1, fun j hj => ?_⟩
    have h2 : (cur.toList.take (l.length * 1))[j]? = cur[j]? := by rw [List.getElem?_take_of_lt (by omega)]; simp
    rw [hx] at h2
    simp only [World.cell?, hg]
    simp only [Nat.zero_add]
    rw [← h2]
    simp [Lib.byteCells, hj]

end Go.Proofs.YtdfiblaboddbjaaGreatDoor.Has
