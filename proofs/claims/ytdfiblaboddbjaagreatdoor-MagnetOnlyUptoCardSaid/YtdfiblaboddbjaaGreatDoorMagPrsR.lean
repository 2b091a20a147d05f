/-
  The document's small functions under Parse.
-/
import Derived.Test.YtdfiblaboddbjaaGreatDoorMagSpec
namespace Go.Proofs.YtdfiblaboddbjaaGreatDoor.Prs
open Go.RowKit Go.Proofs.YtdfiblaboddbjaaGreatDoor.Base Go.Proofs.YtdfiblaboddbjaaGreatDoor.Rep Go.Proofs.YtdfiblaboddbjaaGreatDoor.Mag Go.Proofs.YtdfiblaboddbjaaGreatDoor.Has
set_option linter.unusedVariables false
set_option linter.unusedSimpArgs false

theorem toList_eq (s : ByteArray) : s.toList = s.data.toList := Lib.toList_data s

/-- does s begin with p? -/
def preB (p : List UInt8) (s : ByteArray) : Bool := p.isPrefixOf s.data.toList

theorem prefix_beq (s t : ByteArray) (h : t.size ≤ s.size) : ((s.extract 0 t.size).toList == t.toList) = preB t.data.toList s := by
  unfold preB
  rw [toList_eq, toList_eq]
  have h1 : (s.extract 0 t.size).data.toList = s.data.toList.take t.data.toList.length := by
    simp [ByteArray.data_extract]
  rw [h1]
  rw [Bool.eq_iff_iff]
  simp only [beq_iff_eq, List.isPrefixOf_iff_prefix]
  constructor
  · intro e; rw [← e]; exact List.take_prefix _ _
  · intro e; exact (List.prefix_iff_eq_take.1 e).symm

theorem low_get : ∀ k : Fin 16, (⟨#[48, 49, 50, 51, 52, 53, 54, 55, 56, 57, 97, 98, 99, 100, 101, 102]⟩ : ByteArray)[k.1]'k.2 = lowL[k.1]'k.2 := by decide +kernel
theorem lowV_lt (c : UInt8) : lowV c ≤ 16 := by
  have : ∀ c : Fin 256, lowV (UInt8.ofNat c.1) ≤ 16 := by decide +kernel
  have h := this ⟨c.toNat, UInt8.toNat_lt c⟩
  simpa using h

def pa : List UInt8 → List UInt8
  | [] => []
  | [a] => [UInt8.ofNat (16 * lowV a)]
  | a :: b :: r => UInt8.ofNat (16 * lowV a + lowV b) :: pa r

def hexE : Option (List UInt8) → Int
  | some _ => 0
  | none => 13

theorem unhex_ok : ∀ (l : List UInt8), (∀ c ∈ l, lowV c ≠ 16) → l.length % 2 = 0 → unhexL l = some (pa l)
  | [], _, _ => rfl
  | [_], _, h => by simp at h
  | a :: b :: r, h, he => by
    have ha := h a (by simp)
    have hb := h b (by simp)
    have := unhex_ok r (fun c hc => h c (by simp [hc])) (by simp at he; omega)
    simp [unhexL, pa, ha, hb, this]
theorem unhex_bad : ∀ (l : List UInt8), ((∃ c ∈ l, lowV c = 16) ∨ l.length % 2 = 1) → unhexL l = none
  | [], h => by
    rcases h with ⟨c, hc, _⟩ | h
    · cases hc
    · simp at h
  | [_], _ => rfl
  | a :: b :: r, h => by
    by_cases hab : lowV a = 16 ∨ lowV b = 16
    · simp [unhexL, hab]
    · have : unhexL r = none := unhex_bad r (by
        rcases h with ⟨c, hc, h16⟩ | h
        · rcases List.mem_cons.1 hc with rfl | hc
          · exact absurd (Or.inl h16) hab
          · rcases List.mem_cons.1 hc with rfl | hc
            · exact absurd (Or.inr h16) hab
            · exact Or.inl ⟨c, hc, h16⟩
        · right; simp at h; omega)
      simp [unhexL, hab, this]
theorem pa_len : ∀ (l : List UInt8), (pa l).length = (l.length + 1) / 2
  | [] => rfl
  | [_] => by simp [pa]
  | a :: b :: r => by simp [pa, pa_len r]; omega
theorem pa_even : ∀ (l : List UInt8) (c : UInt8), l.length % 2 = 0 → pa (l ++ [c]) = pa l ++ [UInt8.ofNat (16 * lowV c)]
  | [], c, _ => rfl
  | [_], c, h => by simp at h
  | a :: b :: r, c, h => by
    have := pa_even r c (by simp at h; omega)
    simp [pa, this]
theorem pa_odd : ∀ (l : List UInt8) (c : UInt8), l.length % 2 = 1 → ∃ d, d ∈ l ∧ (pa l)[l.length / 2]? = some (UInt8.ofNat (16 * lowV d)) ∧ pa (l ++ [c]) = (pa l).set (l.length / 2) (UInt8.ofNat (16 * lowV d + lowV c))
  | [], c, h => by simp at h
  | [a], c, _ => ⟨a, by simp, by simp [pa], by simp [pa]⟩
  | a :: b :: r, c, h => by
    obtain ⟨d, h1, h2, h3⟩ := pa_odd r c (by simp at h; omega)
    have e : (a :: b :: r).length / 2 = r.length / 2 + 1 := by simp; omega
    refine ⟨d, by simp [h1], ?_, ?_⟩
    · rw [e]; simpa [pa] using h2
    · rw [e]; simp [pa, h3]

theorem bc_app (a b : List UInt8) : Lib.byteCells (a ++ b) = Lib.byteCells a ++ Lib.byteCells b := by simp [Lib.byteCells]
theorem u8_mul : ∀ n : Nat, n < 16 → ((UInt8.ofNat (16 * n)).toNat : Int) = (n : Int) * 16 := fun n h => by
  rw [UInt8.toNat_ofNat_of_lt' (by show 16 * n < 256; omega)]; omega
theorem u8_add (n m : Nat) (h : n < 16) (h' : m < 16) : ((UInt8.ofNat (16 * n + m)).toNat : Int) = (n : Int) * 16 + m := by
  rw [UInt8.toNat_ofNat_of_lt' (by show 16 * n + m < 256; omega)]; omega

end Go.Proofs.YtdfiblaboddbjaaGreatDoor.Prs
