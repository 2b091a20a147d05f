/-
  There and back, in plain Lean: what is written is read as it was, and what is read is written as it was.
-/
import Derived.Test.YtdfiblaboddbjaaGreatDoorMagRnd2
namespace Go.Proofs.YtdfiblaboddbjaaGreatDoor.Prs
open Go.RowKit Go.Proofs.YtdfiblaboddbjaaGreatDoor.Base Go.Proofs.YtdfiblaboddbjaaGreatDoor.Rep Go.Proofs.YtdfiblaboddbjaaGreatDoor.Mag Go.Proofs.YtdfiblaboddbjaaGreatDoor.Has
set_option linter.unusedVariables false
set_option linter.unusedSimpArgs false

def kXt : ByteArray := ⟨#[120, 116]⟩
def kDn : ByteArray := ⟨#[100, 110]⟩
def kSo : ByteArray := ⟨#[115, 111]⟩
def kTr : ByteArray := ⟨#[116, 114]⟩
def kPe : ByteArray := ⟨#[120, 46, 112, 101]⟩
theorem kiXt : kindI kXt = 0 := by decide
theorem kiDn : kindI kDn = 1 := by decide
theorem kiSo : kindI kSo = 2 := by decide
theorem kiTr : kindI kTr = 3 := by decide
theorem kiPe : kindI kPe = 4 := by decide
theorem k_ne {k : ByteArray} (h : kindI k ≠ 5) : k ≠ ⟨#[]⟩ := fun e => h (by rw [e]; decide)

def xtV (info : List UInt8) : ByteArray := ⟨(newHash ++ hxL info).toArray⟩
def pXt (P : Pk) : List (ByteArray × ByteArray) := [(kXt, xtV P.info)]
def pDn (P : Pk) : List (ByteArray × ByteArray) := if P.name = ⟨#[]⟩ then [] else [(kDn, P.name)]
def pSo (P : Pk) : List (ByteArray × ByteArray) := if P.only = [] then [] else [(kSo, ⟨(soJ P.only).toArray⟩)]
def pTr (P : Pk) : List (ByteArray × ByteArray) := P.trackers.map fun t => (kTr, t)
def pPe (P : Pk) : List (ByteArray × ByteArray) := P.peers.map fun t => (kPe, t)
/-- The pairs of a link, in their order. -/
def pairsOf (P : Pk) : List (ByteArray × ByteArray) := pXt P ++ pDn P ++ pSo P ++ pTr P ++ pPe P ++ P.more

/-- A link that may be (but for its length). -/
structure Good (P : Pk) : Prop where
  info : P.info.length = 32
  tr0 : ⟨#[]⟩ ∉ P.trackers
  pe0 : ⟨#[]⟩ ∉ P.peers
  who : whole P.only
  apt : apartP P.only
  trN : P.trackers.Nodup
  peN : P.peers.Nodup
  srt : ∀ (j : Nat) (a b : ByteArray × ByteArray), P.more[j]? = some a → P.more[j + 1]? = some b → lessB a.1 b.1 = true
  key : ∀ p ∈ P.more, p.1 ≠ ⟨#[]⟩ ∧ kindI p.1 = 5

/-! ### One pair -/
theorem newHash_bare : ∀ c ∈ newHash, bareB c.toNat = true := by decide
theorem firstH_xt {info : List UInt8} (h : info.length = 32) : firstH (newHash ++ hxL info) = some info := by
  unfold firstH
  have h1 : (newHash ++ hxL info).length = 77 := by rw [List.length_append, hxL_len, h]; rfl
  have h2 : newHash.isPrefixOf (newHash ++ hxL info) = true := List.isPrefixOf_iff_prefix.2 (List.prefix_append _ _)
  have h3 : (newHash ++ hxL info).drop 13 = hxL info := by
    rw [show (13 : Nat) = newHash.length from rfl, List.drop_left]
  rw [if_pos ⟨h1, h2⟩, h3, unhex_hx]
theorem firstH_back {v info : List UInt8} (h : firstH v = some info) : v = newHash ++ hxL info ∧ info.length = 32 := by
  unfold firstH at h
  by_cases hc : v.length = 77 ∧ newHash.isPrefixOf v = true
  · rw [if_pos hc] at h
    obtain ⟨t, ht⟩ := List.isPrefixOf_iff_prefix.1 hc.2
    have hd : v.drop 13 = t := by rw [← ht, show (13 : Nat) = newHash.length from rfl, List.drop_left]
    rw [hd] at h
    have he := hx_unhex _ _ h
    have hl : t.length = 64 := by
      have := hc.1
      rw [← ht, List.length_append] at this
      have e : newHash.length = 13 := rfl
      omega
    refine ⟨by rw [he, ht], ?_⟩
    rw [← he, hxL_len] at hl; omega
  · rw [if_neg hc] at h; cases h
theorem old_xt (l : List UInt8) : oldHash.isPrefixOf (newHash ++ l) = false := by
  show List.isPrefixOf _ _ = _
  rfl
theorem place_first {info : List UInt8} : placeE Pk.bare 0 ⟨#[]⟩ kXt (xtV info) = 0 := by
  rw [placeE_xt kiXt]
  have : oldHash.isPrefixOf (xtV info).data.toList = false := old_xt (hxL info)
  rw [this]; rfl
theorem orderE_zero {tl pl : List ByteArray} {last key value : ByteArray} : orderE tl pl last key value = 0 ↔ ¬ kindI key < kindI last ∧ ¬ (((kindI key = 1 ∨ kindI key = 2) ∧ kindI last = kindI key) ∨ (kindI key = 3 ∧ hasB tl value = true) ∨ (kindI key = 4 ∧ hasB pl value = true) ∨ (kindI key = 5 ∧ last = key)) ∧ ¬ (kindI key = 5 ∧ kindI last = 5 ∧ lessB last key = false) := by
  unfold orderE
  constructor
  · intro h
    split at h
    · omega
    · rename_i h1
      split at h
      · omega
      · rename_i h2
        split at h
        · omega
        · rename_i h3; exact ⟨h1, h2, h3⟩
  · rintro ⟨h1, h2, h3⟩
    rw [if_neg h1, if_neg h2, if_neg h3]

theorem holdP_dn (P : Pk) (v : ByteArray) (h : v ≠ ⟨#[]⟩) : holdP P kDn v = ({ P with name := v }, 0) := by
  unfold holdP
  rw [if_neg (by rw [kiDn]; decide), if_neg (fun e => h e.2), if_pos kiDn]
theorem holdP_so (P : Pk) {l : List (Int × Int)} (hw : whole l) (hl : l ≠ []) (ha : apartP l) : holdP P kSo ⟨(soJ l).toArray⟩ = ({ P with only := l }, 0) := by
  unfold holdP
  rw [if_neg (by rw [kiSo]; decide), if_neg (by rw [kiSo]; rintro ⟨h, _⟩; revert h; decide), if_neg (by rw [kiSo]; decide), if_pos kiSo]
  have : runsS (⟨(soJ l).toArray⟩ : ByteArray).data.toList = some l := runsS_so hw hl
  rw [this]
  simp only
  rw [if_pos (T_iff.2 ha)]
theorem holdP_tr (P : Pk) (v : ByteArray) (h : v ≠ ⟨#[]⟩) : holdP P kTr v = ({ P with trackers := P.trackers ++ [v] }, 0) := by
  unfold holdP
  rw [if_neg (by rw [kiTr]; decide), if_neg (fun e => h e.2), if_neg (by rw [kiTr]; decide), if_neg (by rw [kiTr]; decide), if_pos kiTr]
theorem holdP_pe (P : Pk) (v : ByteArray) (h : v ≠ ⟨#[]⟩) : holdP P kPe v = ({ P with peers := P.peers ++ [v] }, 0) := by
  unfold holdP
  rw [if_neg (by rw [kiPe]; decide), if_neg (fun e => h e.2), if_neg (by rw [kiPe]; decide), if_neg (by rw [kiPe]; decide), if_neg (by rw [kiPe]; decide), if_pos kiPe]
theorem holdP_mo (P : Pk) (k v : ByteArray) (h : kindI k = 5) : holdP P k v = ({ P with more := P.more ++ [(k, v)] }, 0) := by
  unfold holdP
  rw [if_neg (by rw [h]; decide), if_neg (by rw [h]; rintro ⟨h', _⟩; revert h'; decide), if_neg (by rw [h]; decide), if_neg (by rw [h]; decide), if_neg (by rw [h]; decide), if_neg (by rw [h]; decide)]

/-! ### Written, then read -/
theorem okK_one {x : ByteArray × ByteArray} {l : List (ByteArray × ByteArray)} {P Q : Pk} {n : Nat} {last : ByteArray} (h1 : x.1 ≠ ⟨#[]⟩) (h2 : placeE P n last x.1 x.2 = 0) (h3 : holdP P x.1 x.2 = (Q, 0)) : okK (x :: l) P n last = okK l Q (n + 1) x.1 := by
  rw [okK, if_pos ⟨h1, h2, by rw [h3]⟩, h3]
theorem run_tr : ∀ (ts : List ByteArray) (P : Pk) (n : Nat) (last : ByteArray), n ≠ 0 → kindI last ≤ 3 → ⟨#[]⟩ ∉ ts → (P.trackers ++ ts).Nodup → ∃ m la, okK (ts.map fun t => (kTr, t)) P n last = some ({ P with trackers := P.trackers ++ ts }, m, la) ∧ m ≠ 0 ∧ kindI la ≤ 3
  | [], P, n, last, hn, hl, _, _ => ⟨n, last, by simp [okK], hn, hl⟩
  | t :: ts, P, n, last, hn, hl, h0, hd => by
    have ht : t ≠ ⟨#[]⟩ := fun e => h0 (by rw [e]; simp)
    have htm : t ∉ P.trackers := fun hm => by
      have := (List.nodup_append.1 hd).2.2
      exact this t hm t (by simp) rfl
    have hp : placeE P n last kTr t = 0 := by
      rw [placeE_other (by rw [kiTr]; decide) hn, orderE_zero, kiTr]
      refine ⟨by omega, ?_, fun h => absurd h.1 (by decide)⟩
      rintro (⟨h | h, _⟩ | ⟨_, h⟩ | ⟨h, _⟩ | ⟨h, _⟩)
      · exact absurd h (by decide)
      · exact absurd h (by decide)
      · rw [(hasB_iff _ _).2 htm] at h; cases h
      · exact absurd h (by decide)
      · exact absurd h (by decide)
    show ∃ m la, okK ((kTr, t) :: ts.map fun t => (kTr, t)) P n last = _ ∧ _
    rw [okK_one (x := (kTr, t)) (k_ne (by rw [kiTr]; decide)) hp (holdP_tr P t ht)]
    obtain ⟨m, la, h1, h2, h3⟩ := run_tr ts { P with trackers := P.trackers ++ [t] } (n + 1) kTr (Nat.succ_ne_zero n) (by rw [kiTr]; decide) (fun hm => h0 (List.mem_cons_of_mem _ hm)) (by simpa using hd)
    refine ⟨m, la, ?_, h2, h3⟩
    rw [h1]; simp
theorem run_pe : ∀ (ts : List ByteArray) (P : Pk) (n : Nat) (last : ByteArray), n ≠ 0 → kindI last ≤ 4 → ⟨#[]⟩ ∉ ts → (P.peers ++ ts).Nodup → ∃ m la, okK (ts.map fun t => (kPe, t)) P n last = some ({ P with peers := P.peers ++ ts }, m, la) ∧ m ≠ 0 ∧ kindI la ≤ 4
  | [], P, n, last, hn, hl, _, _ => ⟨n, last, by simp [okK], hn, hl⟩
  | t :: ts, P, n, last, hn, hl, h0, hd => by
    have ht : t ≠ ⟨#[]⟩ := fun e => h0 (by rw [e]; simp)
    have htm : t ∉ P.peers := fun hm => by
      have := (List.nodup_append.1 hd).2.2
      exact this t hm t (by simp) rfl
    have hp : placeE P n last kPe t = 0 := by
      rw [placeE_other (by rw [kiPe]; decide) hn, orderE_zero, kiPe]
      refine ⟨by omega, ?_, fun h => absurd h.1 (by decide)⟩
      rintro (⟨h | h, _⟩ | ⟨h, _⟩ | ⟨_, h⟩ | ⟨h, _⟩)
      · exact absurd h (by decide)
      · exact absurd h (by decide)
      · exact absurd h (by decide)
      · rw [(hasB_iff _ _).2 htm] at h; cases h
      · exact absurd h (by decide)
    show ∃ m la, okK ((kPe, t) :: ts.map fun t => (kPe, t)) P n last = _ ∧ _
    rw [okK_one (x := (kPe, t)) (k_ne (by rw [kiPe]; decide)) hp (holdP_pe P t ht)]
    obtain ⟨m, la, h1, h2, h3⟩ := run_pe ts { P with peers := P.peers ++ [t] } (n + 1) kPe (Nat.succ_ne_zero n) (by rw [kiPe]; decide) (fun hm => h0 (List.mem_cons_of_mem _ hm)) (by simpa using hd)
    refine ⟨m, la, ?_, h2, h3⟩
    rw [h1]; simp
theorem run_mo : ∀ (ms : List (ByteArray × ByteArray)) (P : Pk) (n : Nat) (last : ByteArray), n ≠ 0 → (∀ p ∈ ms, p.1 ≠ ⟨#[]⟩ ∧ kindI p.1 = 5) → (∀ (j : Nat) (a b : ByteArray × ByteArray), ms[j]? = some a → ms[j + 1]? = some b → lessB a.1 b.1 = true) → (kindI last = 5 → ∀ a, ms[0]? = some a → lessB last a.1 = true) →
    ∃ m la, okK ms P n last = some ({ P with more := P.more ++ ms }, m, la)
  | [], P, n, last, _, _, _, _ => ⟨n, last, by simp [okK]⟩
  | x :: ms, P, n, last, hn, hk, hs, hl => by
    obtain ⟨h0, h5⟩ := hk x (by simp)
    have hp : placeE P n last x.1 x.2 = 0 := by
      have hr := kindI_range last
      rw [placeE_other (by rw [h5]; decide) hn, orderE_zero, h5]
      refine ⟨by omega, ?_, ?_⟩
      · rintro (⟨h | h, _⟩ | ⟨h, _⟩ | ⟨h, _⟩ | ⟨_, h⟩)
        · exact absurd h (by decide)
        · exact absurd h (by decide)
        · exact absurd h (by decide)
        · exact absurd h (by decide)
        · have := hl (by rw [h]; exact h5) x rfl
          rw [h] at this
          exact ((less_iff _ _).1 this).2 rfl
      · rintro ⟨_, h, h'⟩
        rw [hl h x rfl] at h'; cases h'
    rw [okK_one (x := x) h0 hp (holdP_mo P x.1 x.2 h5)]
    obtain ⟨m, la, h1⟩ := run_mo ms { P with more := P.more ++ [(x.1, x.2)] } (n + 1) x.1 (Nat.succ_ne_zero n) (fun p hp => hk p (List.mem_cons_of_mem _ hp)) (fun j a b ha hb => hs (j + 1) a b (by simpa using ha) (by simpa using hb)) (fun _ a ha => hs 0 x a rfl (by simpa using ha))
    refine ⟨m, la, ?_⟩
    rw [h1]; simp

theorem there (P : Pk) (h : Good P) : ∃ m la, okK (pairsOf P) Pk.bare 0 ⟨#[]⟩ = some (P, m, la) := by
  obtain ⟨Q0, hQ0⟩ : ∃ Q : Pk, Q = { Pk.bare with info := P.info } := ⟨_, rfl⟩
  have e0 : okK (pXt P) Pk.bare 0 ⟨#[]⟩ = some (Q0, 1, kXt) := by
    have hh : holdP Pk.bare kXt (xtV P.info) = (Q0, 0) := by
      unfold holdP
      rw [if_pos kiXt]
      have : firstH (xtV P.info).data.toList = some P.info := firstH_xt h.info
      rw [this, hQ0]
    unfold pXt
    rw [okK_one (x := (kXt, xtV P.info)) (k_ne (by rw [kiXt]; decide)) place_first hh]; rfl
  obtain ⟨Q1, hQ1⟩ : ∃ Q : Pk, Q = { Q0 with name := P.name } := ⟨_, rfl⟩
  have e1 : ∃ m la, okK (pDn P) Q0 1 kXt = some (Q1, m, la) ∧ m ≠ 0 ∧ kindI la ≤ 1 := by
    unfold pDn
    by_cases hn : P.name = ⟨#[]⟩
    · rw [if_pos hn]
      refine ⟨1, kXt, ?_, by decide, by rw [kiXt]; decide⟩
      rw [okK, hQ1, hn, hQ0]; rfl
    · rw [if_neg hn]
      have hp : placeE Q0 1 kXt kDn P.name = 0 := by
        rw [placeE_other (by rw [kiDn]; decide) (by decide), orderE_zero, kiDn, kiXt]
        refine ⟨by decide, ?_, fun h => absurd h.1 (by decide)⟩
        rintro (⟨_, h⟩ | ⟨h, _⟩ | ⟨h, _⟩ | ⟨h, _⟩)
        · exact absurd h (by decide)
        · exact absurd h (by decide)
        · exact absurd h (by decide)
        · exact absurd h (by decide)
      rw [okK_one (x := (kDn, P.name)) (k_ne (by rw [kiDn]; decide)) hp (holdP_dn Q0 P.name hn), ← hQ1]
      exact ⟨2, kDn, rfl, by decide, by rw [kiDn]; decide⟩
  obtain ⟨m1, l1, e1, m1n, k1⟩ := e1
  obtain ⟨Q2, hQ2⟩ : ∃ Q : Pk, Q = { Q1 with only := P.only } := ⟨_, rfl⟩
  have e2 : ∃ m la, okK (pSo P) Q1 m1 l1 = some (Q2, m, la) ∧ m ≠ 0 ∧ kindI la ≤ 2 := by
    unfold pSo
    by_cases hn : P.only = []
    · rw [if_pos hn]
      refine ⟨m1, l1, ?_, m1n, by omega⟩
      rw [okK, hQ2, hn, hQ1, hQ0]; rfl
    · rw [if_neg hn]
      have hp : placeE Q1 m1 l1 kSo ⟨(soJ P.only).toArray⟩ = 0 := by
        rw [placeE_other (by rw [kiSo]; decide) m1n, orderE_zero, kiSo]
        refine ⟨by omega, ?_, by rintro ⟨h, _⟩; exact absurd h (by decide)⟩
        rintro (⟨_, h⟩ | ⟨h, _⟩ | ⟨h, _⟩ | ⟨h, _⟩)
        · omega
        · exact absurd h (by decide)
        · exact absurd h (by decide)
        · exact absurd h (by decide)
      rw [okK_one (x := (kSo, ⟨(soJ P.only).toArray⟩)) (k_ne (by rw [kiSo]; decide)) hp (holdP_so Q1 h.who hn h.apt), ← hQ2]
      exact ⟨m1 + 1, kSo, rfl, Nat.succ_ne_zero _, by rw [kiSo]; decide⟩
  obtain ⟨m2, l2, e2, m2n, k2⟩ := e2
  have q2t : Q2.trackers = [] := by rw [hQ2, hQ1, hQ0]; rfl
  have q2p : Q2.peers = [] := by rw [hQ2, hQ1, hQ0]; rfl
  have q2m : Q2.more = [] := by rw [hQ2, hQ1, hQ0]; rfl
  obtain ⟨m3, l3, e3, m3n, k3⟩ := run_tr P.trackers Q2 m2 l2 m2n (by omega) h.tr0 (by rw [q2t]; exact h.trN)
  obtain ⟨Q3, hQ3⟩ : ∃ Q : Pk, Q = { Q2 with trackers := Q2.trackers ++ P.trackers } := ⟨_, rfl⟩
  rw [← hQ3] at e3
  obtain ⟨m4, l4, e4, m4n, k4⟩ := run_pe P.peers Q3 m3 l3 m3n (by omega) h.pe0 (by rw [hQ3, q2p]; exact h.peN)
  obtain ⟨Q4, hQ4⟩ : ∃ Q : Pk, Q = { Q3 with peers := Q3.peers ++ P.peers } := ⟨_, rfl⟩
  rw [← hQ4] at e4
  obtain ⟨m5, l5, e5⟩ := run_mo P.more Q4 m4 l4 m4n h.key h.srt (fun h5 => by omega)
  refine ⟨m5, l5, ?_⟩
  unfold pairsOf
  rw [okK_app, okK_app, okK_app, okK_app, okK_app, e0]
  simp only [Option.bind_some]
  rw [e1]
  simp only [Option.bind_some]
  rw [e2]
  simp only [Option.bind_some]
  show Option.bind (Option.bind (okK (P.trackers.map fun t => (kTr, t)) Q2 m2 l2) _) _ = _
  rw [e3]
  simp only [Option.bind_some]
  show Option.bind (okK (P.peers.map fun t => (kPe, t)) Q3 m3 l3) _ = _
  rw [e4]
  simp only [Option.bind_some]
  rw [e5]
  have : ({ Q4 with more := Q4.more ++ P.more } : Pk) = P := by
    rw [hQ4, hQ3, hQ2, hQ1, hQ0]
    cases P
    simp [Pk.bare]
  rw [this]

/-! ### Read, then written -/
structure Ord (P : Pk) (last : ByteArray) : Prop where
  m5 : kindI last < 5 → P.more = []
  p4 : kindI last < 4 → P.peers = []
  t3 : kindI last < 3 → P.trackers = []
  o2 : kindI last < 2 → P.only = []
  n1 : kindI last < 1 → P.name = ⟨#[]⟩
  lst : ∀ x, P.more.getLast? = some x → x.1 = last

theorem holdP_cases {P : Pk} {key value : ByteArray} (h : (holdP P key value).2 = 0) :
    (kindI key = 0 ∧ ∃ i, firstH value.data.toList = some i ∧ (holdP P key value).1 = { P with info := i }) ∨
    (kindI key = 1 ∧ value ≠ ⟨#[]⟩ ∧ (holdP P key value).1 = { P with name := value }) ∨
    (kindI key = 2 ∧ ∃ l, runsS value.data.toList = some l ∧ apartP l ∧ (holdP P key value).1 = { P with only := l }) ∨
    (kindI key = 3 ∧ value ≠ ⟨#[]⟩ ∧ (holdP P key value).1 = { P with trackers := P.trackers ++ [value] }) ∨
    (kindI key = 4 ∧ value ≠ ⟨#[]⟩ ∧ (holdP P key value).1 = { P with peers := P.peers ++ [value] }) ∨
    (kindI key = 5 ∧ (holdP P key value).1 = { P with more := P.more ++ [(key, value)] }) := by
  have hr := kindI_range key
  unfold holdP at h ⊢
  by_cases h0 : kindI key = 0
  · rw [if_pos h0] at h ⊢
    refine Or.inl ⟨h0, ?_⟩
    cases hf : firstH value.data.toList with
    | none => rw [hf] at h; cases h
    | some i => exact ⟨i, rfl, rfl⟩
  rw [if_neg h0] at h ⊢
  by_cases hv : (kindI key = 1 ∨ kindI key = 3 ∨ kindI key = 4) ∧ value = ⟨#[]⟩
  · rw [if_pos hv] at h; cases h
  rw [if_neg hv] at h ⊢
  by_cases h1 : kindI key = 1
  · rw [if_pos h1]
    exact Or.inr (Or.inl ⟨h1, fun e => hv ⟨Or.inl h1, e⟩, rfl⟩)
  rw [if_neg h1] at h ⊢
  by_cases h2 : kindI key = 2
  · rw [if_pos h2] at h ⊢
    refine Or.inr (Or.inr (Or.inl ⟨h2, ?_⟩))
    cases hf : runsS value.data.toList with
    | none => rw [hf] at h; cases h
    | some l =>
      rw [hf] at h
      simp only at h ⊢
      by_cases ha : T (apartP l) = true
      · rw [if_pos ha]; exact ⟨l, rfl, T_iff.1 ha, rfl⟩
      · rw [if_neg ha] at h; cases h
  rw [if_neg h2] at h ⊢
  by_cases h3 : kindI key = 3
  · rw [if_pos h3]
    exact Or.inr (Or.inr (Or.inr (Or.inl ⟨h3, fun e => hv ⟨Or.inr (Or.inl h3), e⟩, rfl⟩)))
  rw [if_neg h3] at h ⊢
  by_cases h4 : kindI key = 4
  · rw [if_pos h4]
    exact Or.inr (Or.inr (Or.inr (Or.inr (Or.inl ⟨h4, fun e => hv ⟨Or.inr (Or.inr h4), e⟩, rfl⟩))))
  rw [if_neg h4]
  exact Or.inr (Or.inr (Or.inr (Or.inr (Or.inr ⟨by omega, rfl⟩))))

theorem pairs_nil {P : Pk} (hn : P.name = ⟨#[]⟩) : pDn P = [] := if_pos hn
theorem pairs_so {P : Pk} (hn : P.only = []) : pSo P = [] := if_pos hn
theorem getLast_snoc {α : Type} (l : List α) (x : α) : (l ++ [x]).getLast? = some x := by simp
theorem nodup_snoc {α : Type} {l : List α} {x : α} (h : l.Nodup) (hx : x ∉ l) : (l ++ [x]).Nodup := by
  rw [List.nodup_append]
  exact ⟨h, by simp, fun a ha b hb e => by simp at hb; subst hb; subst e; exact hx ha⟩

/-- One pair more. -/
theorem back_step {P : Pk} {n : Nat} {last : ByteArray} {x : ByteArray × ByteArray} (hG : Good P) (hO : Ord P last) (hn : n ≠ 0) (h1 : x.1 ≠ ⟨#[]⟩) (h2 : placeE P n last x.1 x.2 = 0) (h3 : (holdP P x.1 x.2).2 = 0) :
    Good (holdP P x.1 x.2).1 ∧ Ord (holdP P x.1 x.2).1 x.1 ∧ pairsOf (holdP P x.1 x.2).1 = pairsOf P ++ [x] := by
  obtain ⟨k, v⟩ := x
  simp only at h1 h2 h3 ⊢
  have hk0 : kindI k ≠ 0 := fun h0 => by
    rw [placeE_xt h0] at h2
    split at h2
    · omega
    · rw [if_pos (by omega)] at h2; omega
  rw [placeE_other hk0 hn, orderE_zero] at h2
  obtain ⟨o1, o2, o3⟩ := h2
  have hlr := kindI_range last
  rcases holdP_cases h3 with ⟨a, _⟩ | ⟨a, b, c⟩ | ⟨a, l, b, b', c⟩ | ⟨a, b, c⟩ | ⟨a, b, c⟩ | ⟨a, c⟩
  · exact absurd a hk0
  · -- dn
    rw [c]
    have hl0 : kindI last = 0 := by
      rcases Int.lt_or_le (kindI last) 1 with h | h
      · omega
      · exact absurd (Or.inl ⟨Or.inl a, by omega⟩) o2
    have e1 := hO.m5 (by omega)
    have e2 := hO.p4 (by omega)
    have e3 := hO.t3 (by omega)
    have e4 := hO.o2 (by omega)
    have e5 := hO.n1 (by omega)
    have hk : k = kDn := (kind1 k).1 a
    refine ⟨⟨hG.info, hG.tr0, hG.pe0, hG.who, hG.apt, hG.trN, hG.peN, hG.srt, hG.key⟩, ⟨fun _ => e1, fun _ => e2, fun _ => e3, fun _ => e4, fun h => by omega, fun y hy => ?_⟩, ?_⟩
    · rw [show ({ P with name := v } : Pk).more = [] from e1] at hy; cases hy
    · unfold pairsOf pXt pTr pPe pDn pSo
      simp only [e1, e2, e3, e4, e5, if_neg b, if_true, List.map_nil, List.append_nil, hk]
  · -- so
    rw [c]
    have hl1 : kindI last < 2 := by
      rcases Int.lt_or_le (kindI last) 2 with h | h
      · exact h
      · exact absurd (Or.inl ⟨Or.inr a, by omega⟩) o2
    have e1 := hO.m5 (by omega)
    have e2 := hO.p4 (by omega)
    have e3 := hO.t3 (by omega)
    have e4 := hO.o2 (by omega)
    have hk : k = kSo := (kind2 k).1 a
    obtain ⟨r1, r2, r3⟩ := runsF_back _ _ _ b
    refine ⟨⟨hG.info, hG.tr0, hG.pe0, r2, b', hG.trN, hG.peN, hG.srt, hG.key⟩, ⟨fun _ => e1, fun _ => e2, fun _ => e3, fun h => by omega, fun h => by omega, fun y hy => ?_⟩, ?_⟩
    · rw [show ({ P with only := l } : Pk).more = [] from e1] at hy; cases hy
    · have hv : (⟨(soJ l).toArray⟩ : ByteArray) = v := by rw [← r1, ba_eta]
      unfold pairsOf pXt pTr pPe pDn pSo
      simp only [e1, e2, e3, e4, if_neg r3, if_true, List.map_nil, List.append_nil, hk, hv]
  · -- tr
    rw [c]
    have e1 := hO.m5 (by omega)
    have e2 := hO.p4 (by omega)
    have hk : k = kTr := (kind3 k).1 a
    have hv : v ∉ P.trackers := (hasB_iff _ _).1 (by
      cases hb : hasB P.trackers v with
      | false => rfl
      | true => exact absurd (Or.inr (Or.inl ⟨a, hb⟩)) o2)
    refine ⟨⟨hG.info, ?_, hG.pe0, hG.who, hG.apt, nodup_snoc hG.trN hv, hG.peN, hG.srt, hG.key⟩, ⟨fun _ => e1, fun _ => e2, fun h => by omega, fun h => by omega, fun h => by omega, fun y hy => ?_⟩, ?_⟩
    · intro hm
      rcases List.mem_append.1 hm with hm | hm
      · exact hG.tr0 hm
      · simp at hm; exact b hm.symm
    · rw [show ({ P with trackers := P.trackers ++ [v] } : Pk).more = [] from e1] at hy; cases hy
    · unfold pairsOf pXt pTr pPe pDn pSo
      simp only [e1, e2, List.map_nil, List.append_nil, List.map_append, List.map_cons, hk, List.append_assoc]
  · -- x.pe
    rw [c]
    have e1 := hO.m5 (by omega)
    have hk : k = kPe := (kind4 k).1 a
    have hv : v ∉ P.peers := (hasB_iff _ _).1 (by
      cases hb : hasB P.peers v with
      | false => rfl
      | true => exact absurd (Or.inr (Or.inr (Or.inl ⟨a, hb⟩))) o2)
    refine ⟨⟨hG.info, hG.tr0, ?_, hG.who, hG.apt, hG.trN, nodup_snoc hG.peN hv, hG.srt, hG.key⟩, ⟨fun _ => e1, fun h => by omega, fun h => by omega, fun h => by omega, fun h => by omega, fun y hy => ?_⟩, ?_⟩
    · intro hm
      rcases List.mem_append.1 hm with hm | hm
      · exact hG.pe0 hm
      · simp at hm; exact b hm.symm
    · rw [show ({ P with peers := P.peers ++ [v] } : Pk).more = [] from e1] at hy; cases hy
    · unfold pairsOf pXt pTr pPe pDn pSo
      simp only [e1, List.map_nil, List.append_nil, List.map_append, List.map_cons, hk, List.append_assoc]
  · -- another key
    rw [c]
    refine ⟨⟨hG.info, hG.tr0, hG.pe0, hG.who, hG.apt, hG.trN, hG.peN, ?_, ?_⟩, ⟨fun h => by omega, fun h => by omega, fun h => by omega, fun h => by omega, fun h => by omega, fun y hy => ?_⟩, ?_⟩
    · intro j p q hp hq
      have hp' : (P.more ++ [(k, v)])[j]? = some p := hp
      have hq' : (P.more ++ [(k, v)])[j + 1]? = some q := hq
      rcases Nat.lt_or_ge (j + 1) P.more.length with hj | hj
      · rw [List.getElem?_append_left (by omega)] at hp'
        rw [List.getElem?_append_left hj] at hq'
        exact hG.srt j p q hp' hq'
      · have hjl := (List.getElem?_eq_some_iff.1 hq').1
        simp at hjl
        have hj2 : P.more.length = j + 1 := by omega
        rw [List.getElem?_append_right hj, hj2, Nat.sub_self] at hq'
        simp only [List.getElem?_cons_zero, Option.some.injEq] at hq'
        rw [List.getElem?_append_left (by omega)] at hp'
        have hlp : P.more.getLast? = some p := by rw [List.getLast?_eq_getElem?, hj2]; exact hp'
        have hpl := hO.lst p hlp
        have hl5 : kindI last = 5 := by rw [← hpl]; exact (hG.key p (List.mem_of_getElem? hp')).2
        rw [← hq', hpl]
        cases hb : lessB last k with
        | true => rfl
        | false => exact absurd ⟨a, hl5, hb⟩ o3
    · intro p hp
      rcases List.mem_append.1 hp with hp | hp
      · exact hG.key p hp
      · simp at hp; subst hp; exact ⟨h1, a⟩
    · have hy' : (P.more ++ [(k, v)]).getLast? = some y := hy
      rw [getLast_snoc] at hy'
      injection hy' with hy'
      rw [← hy']
    · unfold pairsOf pXt pTr pPe pDn pSo
      simp only [List.append_assoc]

theorem back_run : ∀ (l : List (ByteArray × ByteArray)) (P : Pk) (n : Nat) (last : ByteArray) (x : Pk × Nat × ByteArray), Good P → Ord P last → n ≠ 0 → okK l P n last = some x → Good x.1 ∧ pairsOf x.1 = pairsOf P ++ l
  | [], P, n, last, x, hG, _, _, h => by
    rw [okK] at h
    injection h with h
    subst h
    exact ⟨hG, by simp⟩
  | y :: l, P, n, last, x, hG, hO, hn, h => by
    rw [okK] at h
    by_cases hc : y.1 ≠ ⟨#[]⟩ ∧ placeE P n last y.1 y.2 = 0 ∧ (holdP P y.1 y.2).2 = 0
    · rw [if_pos hc] at h
      obtain ⟨g1, g2, g3⟩ := back_step hG hO hn hc.1 hc.2.1 hc.2.2
      obtain ⟨r1, r2⟩ := back_run l _ _ _ x g1 g2 (Nat.succ_ne_zero n) h
      exact ⟨r1, by rw [r2, g3]; simp⟩
    · rw [if_neg hc] at h; cases h

/-- What is read is a link that may be, and its pairs are those that were read. -/
theorem back (l : List (ByteArray × ByteArray)) (x : Pk × Nat × ByteArray) (hl : l ≠ []) (h : okK l Pk.bare 0 ⟨#[]⟩ = some x) : Good x.1 ∧ pairsOf x.1 = l := by
  cases l with
  | nil => exact absurd rfl hl
  | cons y l =>
    rw [okK] at h
    by_cases hc : y.1 ≠ ⟨#[]⟩ ∧ placeE Pk.bare 0 ⟨#[]⟩ y.1 y.2 = 0 ∧ (holdP Pk.bare y.1 y.2).2 = 0
    · rw [if_pos hc] at h
      obtain ⟨h1, h2, h3⟩ := hc
      have hk0 : kindI y.1 = 0 := by
        by_cases e : kindI y.1 = 0
        · exact e
        · rw [placeE_first e] at h2; cases h2
      have hk : y.1 = kXt := (kind0 y.1).1 hk0
      rcases holdP_cases h3 with ⟨_, i, hi, c⟩ | ⟨a, _⟩ | ⟨a, _⟩ | ⟨a, _⟩ | ⟨a, _⟩ | ⟨a, _⟩
      · obtain ⟨hv, hil⟩ := firstH_back hi
        rw [c] at h
        have hG : Good { Pk.bare with info := i } := ⟨hil, by simp [Pk.bare], by simp [Pk.bare], fun j hj => by simp [Pk.bare] at hj, fun j hj => by simp [Pk.bare] at hj, by simp [Pk.bare], by simp [Pk.bare], fun j a b ha => by simp [Pk.bare] at ha, fun p hp => by simp [Pk.bare] at hp⟩
        have hO : Ord { Pk.bare with info := i } y.1 := ⟨fun _ => rfl, fun _ => rfl, fun _ => rfl, fun _ => rfl, fun _ => rfl, fun z hz => by simp [Pk.bare] at hz⟩
        obtain ⟨r1, r2⟩ := back_run l _ _ _ x hG hO (by decide) h
        refine ⟨r1, ?_⟩
        rw [r2]
        have hy : y = (kXt, xtV i) := by
          have : y.2 = xtV i := by unfold xtV; rw [← hv, ba_eta]
          rw [← hk, ← this]
        rw [hy]
        unfold pairsOf pXt pTr pPe pDn pSo
        simp [Pk.bare]
      · rw [hk0] at a; exact absurd a (by decide)
      · rw [hk0] at a; exact absurd a (by decide)
      · rw [hk0] at a; exact absurd a (by decide)
      · rw [hk0] at a; exact absurd a (by decide)
      · rw [hk0] at a; exact absurd a (by decide)
    · rw [if_neg hc] at h; cases h

/-! ### The text -/
theorem kv_self {k v : ByteArray} (hk : ∀ c ∈ k.data.toList, bareB c.toNat = true) (hv : ∀ c ∈ v.data.toList, bareB c.toNat = true) : kv (k, v) = k.data.toList ++ 61 :: v.data.toList := by
  unfold kv; simp only; rw [esc_self hk, esc_self hv]
theorem kv_key {k v : ByteArray} (hk : ∀ c ∈ k.data.toList, bareB c.toNat = true) : kv (k, v) = k.data.toList ++ 61 :: escL v.data.toList := by
  unfold kv; simp only; rw [esc_self hk]

theorem prK_map (P : Pk) : prK P.lk P.more.length = (P.more.map kv).flatMap (38 :: ·) := by
  have : ∀ k, k ≤ P.more.length → prK P.lk k = ((P.more.take k).map kv).flatMap (38 :: ·) := by
    intro k
    induction k with
    | zero => intro _; simp [prK]
    | succ k ih =>
      intro hk
      rw [prK_succ, ih (by omega), List.take_succ_eq_append_getElem (by omega), List.map_append, List.flatMap_append]
      have h1 : P.lk.xk k = (P.more[k]).1 := by simp [Pk.lk, List.getD, List.getElem?_eq_getElem (show k < P.more.length by omega)]
      have h2 : textV (P.lk.xv k) = (P.more[k]).2 := by simp [Pk.lk, moreV, textV, List.getD, List.getElem?_eq_getElem (show k < P.more.length by omega)]
      rw [h1, h2]
      simp [kv]
  have h := this P.more.length (Nat.le_refl _)
  rw [List.take_length] at h
  exact h

/-- A link's text is its pairs, glued. -/
theorem text_pairs (P : Pk) (hw : whole P.only) : textL P.lk = begins ++ glue ((pairsOf P).map kv) := by
  have e0 : baseL P.lk = begins ++ kv (kXt, xtV P.info) := by
    rw [kv_self (by decide) (fun c hc => by
      have hc' : c ∈ newHash ++ hxL P.info := hc
      rcases List.mem_append.1 hc' with h | h
      · exact newHash_bare c h
      · exact hxL_bare c h)]
    rfl
  have e1 : nameL P.lk = baseL P.lk ++ ((pDn P).map kv).flatMap (38 :: ·) := by
    unfold nameL pDn
    by_cases hn : P.name = ⟨#[]⟩
    · rw [if_pos hn, if_pos (show P.lk.name = ⟨#[]⟩ from hn)]; simp
    · rw [if_neg hn, if_neg (show ¬ P.lk.name = ⟨#[]⟩ from hn)]
      simp only [List.map_cons, List.map_nil, List.flatMap_cons, List.flatMap_nil, List.append_nil]
      rw [kv_key (by decide)]; rfl
  have e2 : soK P.lk.only P.lk.only.length = ((pSo P).map kv).flatMap (38 :: ·) := by
    rw [soK_all]
    unfold pSo
    by_cases hn : P.only = []
    · rw [if_pos hn, if_pos (show P.lk.only = [] from hn)]; simp
    · rw [if_neg hn, if_neg (show ¬ P.lk.only = [] from hn)]
      simp only [List.map_cons, List.map_nil, List.flatMap_cons, List.flatMap_nil, List.append_nil]
      rw [kv_self (by decide) (fun c hc => soJ_bare hw c hc)]; rfl
  have e3 : trK P.lk.trackers P.lk.trackers.length = ((pTr P).map kv).flatMap (38 :: ·) := by
    unfold trK pTr
    rw [List.take_length, List.map_map, List.flatMap_map]
    congr 1
  have e4 : peK P.lk.peers P.lk.peers.length = ((pPe P).map kv).flatMap (38 :: ·) := by
    unfold peK pPe
    rw [List.take_length, List.map_map, List.flatMap_map]
    congr 1
  have e5 : prK P.lk P.lk.xn = (P.more.map kv).flatMap (38 :: ·) := prK_map P
  have e6 : textL P.lk = nameL P.lk ++ soK P.lk.only P.lk.only.length ++ trK P.lk.trackers P.lk.trackers.length ++ peK P.lk.peers P.lk.peers.length ++ prK P.lk P.lk.xn := rfl
  have hp : (pairsOf P).map kv = kv (kXt, xtV P.info) :: ((pDn P).map kv ++ (pSo P).map kv ++ (pTr P).map kv ++ (pPe P).map kv ++ P.more.map kv) := by simp [pairsOf, pXt]
  rw [e6, e1, e0, e2, e3, e4, e5, hp]
  generalize (pDn P).map kv = a1
  generalize (pSo P).map kv = a2
  generalize (pTr P).map kv = a3
  generalize (pPe P).map kv = a4
  generalize P.more.map kv = a5
  generalize kv (kXt, xtV P.info) = a0
  show _ = begins ++ (a0 ++ (a1 ++ a2 ++ a3 ++ a4 ++ a5).flatMap (38 :: ·))
  simp only [List.flatMap_append, List.append_assoc]

theorem parse_start {s : List UInt8} {t : List UInt8} (h : s = begins ++ t) (hl : s.length ≤ 4096) : parseS s = parseF (s.length + 1) t 8 Pk.bare 0 ⟨#[]⟩ := by
  unfold parseS
  rw [if_neg (by omega), if_pos (by rw [h]; exact List.isPrefixOf_iff_prefix.2 (List.prefix_append _ _))]
  have : s.drop 8 = t := by rw [h, show (8 : Nat) = begins.length from rfl, List.drop_left]
  rw [this]

/-- WHAT IS WRITTEN IS READ AS IT WAS. -/
theorem parse_text (P : Pk) (h : Good P) (hl : (textL P.lk).length ≤ 4096) : parseS (textL P.lk) = (P, 0, 0) := by
  obtain ⟨m, la, hk⟩ := there P h
  have ht := text_pairs P h.who
  rw [parse_start ht hl]
  have hp : pairsOf P = (kXt, xtV P.info) :: (pDn P ++ pSo P ++ pTr P ++ pPe P ++ P.more) := by unfold pairsOf pXt; simp
  have hf := okF_kv _ _ _ _ _ hk
  rw [hp] at ht hf ⊢
  simp only [List.map_cons] at ht hf ⊢
  refine parse_glue _ _ _ _ _ _ _ (P, m, la) ?_ ?_ hf
  · intro q hq
    rw [← List.map_cons] at hq
    obtain ⟨x, _, rfl⟩ := List.mem_map.1 hq
    exact kv_no38 x
  · rw [ht, List.length_append]; omega

theorem begins_of {s : List UInt8} (h : begins.isPrefixOf s = true) : ∃ t, s = begins ++ t := by
  obtain ⟨t, ht⟩ := List.isPrefixOf_iff_prefix.1 h
  exact ⟨t, ht.symm⟩

/-- WHAT IS READ IS WRITTEN AS IT WAS; else there is nothing of it, and the fault's place is within. -/
theorem text_parse (s : List UInt8) : ((parseS s).2.2 = 0 → (parseS s).2.1 = 0 ∧ Good (parseS s).1 ∧ textL (parseS s).1.lk = s ∧ s.length ≤ 4096) ∧ ((parseS s).2.2 ≠ 0 → (parseS s).1 = Pk.bare ∧ 0 ≤ (parseS s).2.1 ∧ (parseS s).2.1 ≤ s.length) := by
  by_cases hl : 4096 < s.length
  · have : parseS s = (Pk.bare, 0, 221) := by unfold parseS; rw [if_pos hl]
    rw [this]
    exact ⟨fun h => (by cases h), fun _ => ⟨rfl, Int.le_refl _, by simp⟩⟩
  · cases hb : begins.isPrefixOf s with
    | false =>
      have : parseS s = (Pk.bare, 0, 220) := by unfold parseS; rw [if_neg hl, if_neg (by rw [hb]; simp)]
      rw [this]
      exact ⟨fun h => (by cases h), fun _ => ⟨rfl, Int.le_refl _, by simp⟩⟩
    | true =>
      obtain ⟨t, ht⟩ := begins_of hb
      have hlt : s.length = 8 + t.length := by rw [ht, List.length_append]; rfl
      rw [parse_start ht (by omega)]
      have hp := parse_back (s.length + 1) t 8 0 Pk.bare ⟨#[]⟩ (by omega)
      refine ⟨fun h0 => ?_, fun h0 => ?_⟩
      · obtain ⟨a, p, ps, x, h1, h2, h3, h4⟩ := hp.1 h0
        obtain ⟨l, hl1, hl2⟩ := okF_back _ _ _ _ _ h3
        have hne : l ≠ [] := fun e => by rw [e] at hl1; cases hl1
        obtain ⟨g1, g2⟩ := back l x hne hl2
        refine ⟨a, by rw [h4]; exact g1, ?_, by omega⟩
        rw [h4, text_pairs x.1 g1.who, g2, ← hl1, ← h1, ← ht]
      · obtain ⟨a, b, c⟩ := hp.2 h0
        exact ⟨a, b, by omega⟩

/-- A link that may be, by the program's own word. -/
theorem code_good {P : Pk} (hi : P.info.length = 32) : codeX P.lk = 0 ↔ Good P ∧ (textL P.lk).length ≤ 4096 := by
  have hxk : ∀ j (hj : j < P.more.length), P.lk.xk j = (P.more[j]).1 := fun j hj => by simp [Pk.lk, List.getD, List.getElem?_eq_getElem hj]
  have hok : ∀ j, okV (P.lk.xv j) := fun j => ⟨rfl, rfl, rfl, rfl⟩
  constructor
  · intro h
    unfold codeX at h
    cases h1 : T (formP P.lk) with
    | false => rw [h1] at h; cases h
    | true =>
      cases h2 : T (apartP P.lk.only) with
      | false => rw [h1, h2] at h; cases h
      | true =>
        cases h3 : T (sortedP P.lk) with
        | false => rw [h1, h2, h3] at h; cases h
        | true =>
          cases h4 : T (dupP P.lk.trackers) with
          | true => rw [h1, h2, h3, h4] at h; cases h
          | false =>
            cases h5 : T (dupP P.lk.peers) with
            | true => rw [h1, h2, h3, h4, h5] at h; cases h
            | false =>
              cases h6 : T (kindsBad P.lk) with
              | true => rw [h1, h2, h3, h4, h5, h6] at h; cases h
              | false =>
                rw [h1, h2, h3, h4, h5, h6] at h
                simp only [cond_true, cond_false] at h
                have h7 : ¬ 4096 < (textL P.lk).length := fun h7 => by rw [if_pos h7] at h; cases h
                obtain ⟨f1, f2, f3, f4⟩ := T_iff.1 h1
                have h3' := T_iff.1 h3
                have h6' := T_iff_not.1 h6
                refine ⟨⟨hi, (hasB_iff _ _).1 f1, (hasB_iff _ _).1 f2, f3, T_iff.1 h2, (dup_iff _).1 (T_iff_not.1 h4), (dup_iff _).1 (T_iff_not.1 h5), ?_, ?_⟩, by omega⟩
                · intro j a b ha hb
                  obtain ⟨hja, ea⟩ := List.getElem?_eq_some_iff.1 ha
                  obtain ⟨hjb, eb⟩ := List.getElem?_eq_some_iff.1 hb
                  rw [less_iff]
                  have hs := h3' j hjb
                  rw [hxk (j + 1) hjb, hxk j hja, ea, eb] at hs
                  refine ⟨hs, fun e => h6' ⟨j + 1, hjb, Or.inr ⟨Nat.succ_pos j, ?_⟩⟩⟩
                  rw [hxk (j + 1) hjb, show j + 1 - 1 = j from rfl, hxk j hja, ea, eb, e]
                · intro p hp
                  obtain ⟨j, hj, rfl⟩ := List.getElem_of_mem hp
                  have := (f4 j hj).1
                  rw [hxk j hj] at this
                  refine ⟨this, ?_⟩
                  have hr := kindI_range (P.more[j]).1
                  rcases Int.lt_or_le (kindI (P.more[j]).1) 5 with h | h
                  · exact absurd ⟨j, hj, Or.inl (by rw [hxk j hj]; exact h)⟩ h6'
                  · omega
  · rintro ⟨hG, hl⟩
    have h1 : T (formP P.lk) = true := T_iff.2 ⟨(hasB_iff _ _).2 hG.tr0, (hasB_iff _ _).2 hG.pe0, hG.who, fun j hj => ⟨by rw [hxk j hj]; exact (hG.key _ (List.getElem_mem _)).1, hok j⟩⟩
    have h2 : T (apartP P.lk.only) = true := T_iff.2 hG.apt
    have hlt : ∀ j (h1 : j + 1 < P.more.length), lessB (P.more[j]).1 (P.more[j + 1]).1 = true := fun j h1 => hG.srt j _ _ (List.getElem?_eq_getElem (by omega)) (List.getElem?_eq_getElem h1)
    have h3 : T (sortedP P.lk) = true := T_iff.2 (fun j hj => by
      rw [hxk (j + 1) hj, hxk j (by have : j + 1 < P.more.length := hj; omega)]
      exact ((less_iff _ _).1 (hlt j hj)).1)
    have h4 : T (dupP P.lk.trackers) = false := T_iff_not.2 ((dup_iff _).2 hG.trN)
    have h5 : T (dupP P.lk.peers) = false := T_iff_not.2 ((dup_iff _).2 hG.peN)
    have h6 : T (kindsBad P.lk) = false := T_iff_not.2 (by
      rintro ⟨j, hj, h | ⟨h0, h⟩⟩
      · have hj' : j < P.more.length := hj
        have h5 := (hG.key _ (List.getElem_mem hj')).2
        rw [hxk j hj'] at h
        omega
      · obtain ⟨i, rfl⟩ : ∃ i, j = i + 1 := ⟨j - 1, by omega⟩
        rw [hxk (i + 1) hj, show i + 1 - 1 = i from rfl, hxk i (by have : i + 1 < P.more.length := hj; omega)] at h
        exact ((less_iff _ _).1 (hlt i hj)).2 h.symm)
    unfold codeX
    rw [h1, h2, h3, h4, h5, h6]
    simp only [cond_true, cond_false]
    rw [if_neg (by omega)]

end Go.Proofs.YtdfiblaboddbjaaGreatDoor.Prs
