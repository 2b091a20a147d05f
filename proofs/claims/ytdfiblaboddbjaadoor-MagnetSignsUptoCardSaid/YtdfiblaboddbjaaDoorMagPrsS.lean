/-
  The document's runs.
-/
import Derived.Test.YtdfiblaboddbjaaDoorMagPrsN
namespace Go.Proofs.YtdfiblaboddbjaaDoor.Prs
open Go.RowKit Go.Proofs.YtdfiblaboddbjaaDoor.Base Go.Proofs.YtdfiblaboddbjaaDoor.Rep Go.Proofs.YtdfiblaboddbjaaDoor.Mag Go.Proofs.YtdfiblaboddbjaaDoor.Has
set_option linter.unusedVariables false
set_option linter.unusedSimpArgs false

/-- Runs as cells. -/
def rows2 (l : List (Int × Int)) : List Value := (List.range l.length).flatMap (Twin.rx l)
theorem rows2_snoc (l : List (Int × Int)) (r : Int × Int) : rows2 (l ++ [r]) = rows2 l ++ [.int .i64 r.1, .int .i64 r.2] := by
  unfold rows2
  rw [List.length_append, List.length_singleton, flat_snoc, flat_congr (Twin.rx (l ++ [r])) (Twin.rx l) l.length (fun j hj => by simp [Twin.rx, List.getD, List.getElem?_append_left hj])]
  simp [Twin.rx, List.getD]
def isS : Option (List (Int × Int)) → Bool
  | some _ => true
  | none => false

theorem dropL {s L : List UInt8} {i n k : Nat} (h : s.drop i = L) (hk : i + n = k) : L.drop n = s.drop k := by
  subst h hk; rw [List.drop_drop]

/-- what a run's end may be: the run told whole -/
def rr1 (l : List UInt8) : Option ((Int × Int) × List UInt8) := run1 l

set_option maxHeartbeats 16000000 in
set_option maxRecDepth 100000 in
theorem rruns (s : ByteArray) (hs : s.size ≤ 1048576) (w : World) :
    Calls Tryd.prog 86 #[.string s] w fun e w' => (∃ v, e = .returned (.tuple #[v, .bool (isS (runsS s.data.toList))]) ∧ ∀ r, runsS s.data.toList = some r → w'.ownsRow w.heap.size 64 2 v r.length (rows2 r)) ∧ Below w.heap.size w w' := by
  have hsl : s.data.toList.length = s.size := by simp
  go_enter Tryd.func86, Tryd.ntmps86
  go_wp2
  go_loopw [4, 5] (fun v4 v5 wr => ∃ (i f : Nat) (acc : List (Int × Int)), i ≤ s.size ∧ v5 = .int .i64 (i : Int) ∧ acc.length ≤ i ∧ Below w.heap.size w wr ∧ Hid (wr.ownsRow w.heap.size 64 2 v4 acc.length (rows2 acc)) ∧ Hid (s.size - i < f ∧ runsS s.data.toList = (runsF f (s.data.toList.drop i)).map (acc ++ ·))) (fun _ v5 _ => s.size + 1 - (intOf v5).toNat)
  case atStart =>
    refine ⟨0, s.size + 1, [], by omega, rfl, by simp, Below.refl _ _, ⟨rfl, Or.inl ⟨rfl, rfl⟩⟩, by omega, ?_⟩
    unfold runsS
    rw [hsl, List.drop_zero]
    cases runsF (s.size + 1) s.data.toList <;> simp
  case round =>
    obtain ⟨i, f0, acc, his, rfl, hac, hB, HO, HF⟩ := hrel
    have hwr := hB.size
    obtain ⟨f, rfl⟩ : ∃ f, f0 = f + 1 := ⟨f0 - 1, by have := HF.out.1; omega⟩
    have hnum := rnumber s i his hs wr
    obtain ⟨L, hL⟩ : ∃ L, s.data.toList.drop i = L := ⟨_, rfl⟩
    have hLl : L.length = s.size - i := by rw [← hL]; simp
    rw [hL] at hnum
    have hdl : (digs L).length ≤ L.length ∧ digs L = L.take (digs L).length := by
      have h1 : (digs L) <+: L := (List.takeWhile_prefix _).trans (List.take_prefix _ _)
      exact ⟨h1.length_le, List.prefix_iff_eq_take.1 h1⟩
    have HFL : Hid (runsS s.data.toList = (runsF (f + 1) L).map (acc ++ ·)) := by rw [← hL]; exact HF.out.2
    have HFf : s.size - i < f + 1 := HF.out.1
    have HNUM := Lib.hid hnum
    clear hnum HF
    go_wp2_with fail
    refine HNUM.out.mono ?_
    rintro e w1 ⟨rfl, rfl⟩
    cases hn : numS (digs L) with
    | none =>
      have hr : run1 L = none := by unfold run1; rw [hn]
      have HBAD : Hid (runsS s.data.toList = none) := by rw [HFL.out]; simp [runsF, hr, Hid]
      have hA : numA L = 0 := by unfold numA; rw [hn]
      have hK : numK L i = -1 := by unfold numK; rw [hn]
      rw [hA, hK]
      clear hn hr hA hK
      go_wp2
      go_ret2
      exact ⟨⟨_, by rw [HBAD.out]; rfl, fun r hr => by rw [HBAD.out] at hr; cases hr⟩, hB⟩
    | some a =>
      obtain ⟨ha1, _, _, ha4, ha5, _⟩ := numS_some hn
      obtain ⟨k, hk⟩ : ∃ k, i + (digs L).length = k := ⟨_, rfl⟩
      have hA : numA L = (a : Int) := by unfold numA; rw [hn]
      have hK : numK L i = (k : Int) := by unfold numK; rw [hn, hk]
      have hdp : 0 < (digs L).length := List.length_pos_iff.2 ha4
      have hks : k ≤ s.size := by omega
      have hik : i < k := by omega
      have hLk : L.drop (digs L).length = s.data.toList.drop k := dropL hL hk
      have HN := Lib.hid hn
      have HLK := Lib.hid hLk
      rw [hA, hK]
      clear hn hLk hA hK
      have hk0 : (0 : Int) ≤ (k : Int) := by omega
      have hi0 : (0 : Int) ≤ (i : Int) := by omega
      by_cases hd : ∃ h : k < s.size, s[k].toNat = 45
      · obtain ⟨hks2, h45⟩ := hd
        have hk1 : (k : Int) < (s.size : Int) := by omega
        have h45' : ((s[k].toNat : Int) == 45) = true := by simp [h45]
        have hnum2 := rnumber s (k + 1) (by omega) hs w1
        obtain ⟨M, hM⟩ : ∃ M, s.data.toList.drop (k + 1) = M := ⟨_, rfl⟩
        have hMl : M.length = s.size - (k + 1) := by rw [← hM]; simp
        rw [hM] at hnum2
        have hdm : (digs M).length ≤ M.length := ((List.takeWhile_prefix _).trans (List.take_prefix _ _)).length_le
        have HR1 : Hid (run1 L = match numS (digs M) with | none => none | some b => if b ≤ a then none else some (((a : Int), (b : Int) - a + 1), M.drop (digs M).length)) := by
          refine Lib.hid ?_
          have e1 : s.data.toList.drop k = s[k] :: M := by rw [← hM]; exact drop_cons s k hks2
          unfold run1
          rw [HN.out]
          simp only [HLK.out, e1]
          rw [if_pos (by
            have : s[k] = 45 := by rw [← UInt8.toNat_inj]; exact h45
            rw [this]; rfl)]
          rfl
        have hp : ((k + 1 : Nat) : Int) = (k : Int) + 1 := by omega
        rw [hp] at hnum2
        have HNUM2 := Lib.hid hnum2
        clear hnum2
        go_wp2_with fail
        refine HNUM2.out.mono ?_
        rintro e w2 ⟨rfl, rfl⟩
        cases hn2 : numS (digs M) with
        | none =>
          have HBAD : Hid (runsS s.data.toList = none) := by
            rw [HFL.out]
            have : run1 L = none := by rw [HR1.out, hn2]
            simp [runsF, this, Hid]
          have hA : numA M = 0 := by unfold numA; rw [hn2]
          have hK : numK M (k + 1) = -1 := by unfold numK; rw [hn2]
          rw [hA, hK]
          clear hn2 hA hK
          go_wp2
          go_ret2
          exact ⟨⟨_, by rw [HBAD.out]; rfl, fun r hr => by rw [HBAD.out] at hr; cases hr⟩, hB⟩
        | some b =>
          obtain ⟨hb1, _, _, hb4, hb5, _⟩ := numS_some hn2
          obtain ⟨k2, hk2⟩ : ∃ k2, k + 1 + (digs M).length = k2 := ⟨_, rfl⟩
          have hA : numA M = (b : Int) := by unfold numA; rw [hn2]
          have hK : numK M (k + 1) = (k2 : Int) := by unfold numK; rw [hn2, hk2]
          have hks3 : k2 ≤ s.size := by omega
          have hMk : M.drop (digs M).length = s.data.toList.drop k2 := dropL hM hk2
          rw [hA, hK]
          by_cases hba : b ≤ a
          · have HBAD : Hid (runsS s.data.toList = none) := by
              rw [HFL.out]
              have : run1 L = none := by rw [HR1.out, hn2]; simp [hba]
              simp [runsF, this, Hid]
            have hba' : (b : Int) ≤ (a : Int) := by omega
            clear hn2 hA hK hMk
            go_wp2
            go_ret2
            exact ⟨⟨_, by rw [HBAD.out]; rfl, fun r hr => by rw [HBAD.out] at hr; cases hr⟩, hB⟩
          · have hba' : ¬ (b : Int) ≤ (a : Int) := by omega
            have HR : Hid (run1 L = some (((a : Int), (b : Int) - a + 1), s.data.toList.drop k2)) := by
              rw [HR1.out, hn2]; simp [hba, hMk, Hid]
            clear hn2 hA hK hMk
            have hac1 : acc.length + 1 ≤ maxLen := by unfold maxLen; omega
            have hac2 : (acc.length + 1) * 16 ≤ 140737488355328 := by omega
            go_wp2_with (at_builtin; refine wpList_appL rfl _ _ 25 rfl w.heap.size 64 _ 2 16 Twin.infoR rfl (by decide) Tryd.underlying25 _ _ _ rfl (HO.out.alloc _) ⟨w2.heap.size, 0, none⟩ 1 1 [.int .i64 (a : Int), .int .i64 ((b : Int) - a + 1)] rfl rfl (news_block (cs := #[.int .i64 (a : Int), .int .i64 ((b : Int) - a + 1)]) (Go.heap_alloc_new _ _)) (by simp [Value.oneCell']) (by decide) hac1 hac2 (by simp; omega) ?_)
            intro g cap w3 ho3 hgr3 _ _
            have hB3 : Below w.heap.size w w3 := (hB.alloc hwr _).grown hgr3 (by simp; omega) (fun k hk => (HO.out.lt k hk).1)
            have HO3 : Hid (w3.ownsRow w.heap.size 64 2 (.slice (some ⟨g, 0, none⟩) (acc.length + 1) cap) (acc ++ [((a : Int), (b : Int) - a + 1)]).length (rows2 (acc ++ [((a : Int), (b : Int) - a + 1)]))) := by
              refine Lib.hid ?_
              rw [rows2_snoc, List.length_append]; exact ho3
            clear ho3 hgr3
            rcases Nat.lt_or_ge k2 s.size with hq1 | hq1
            · have hq2 : ((k2 : Int) == (s.size : Int)) = false := by simp; omega
              have hq3 : (k2 : Int) < (s.size : Int) := by omega
              have hq4 : (0 : Int) ≤ (k2 : Int) := by omega
              by_cases h44 : s[k2].toNat = 44
              · have h44' : ((s[k2].toNat : Int) == 44) = true := by simp [h44]
                have HGO : Hid (runsS s.data.toList = (runsF f (s.data.toList.drop (k2 + 1))).map ((acc ++ [((a : Int), (b : Int) - a + 1)]) ++ ·)) := by
                  refine Lib.hid ?_
                  rw [HFL.out]
                  have e0 : s.data.toList.drop k2 = s[k2] :: s.data.toList.drop (k2 + 1) := drop_cons s k2 hq1
                  have e1 : s[k2] = 44 := by rw [← UInt8.toNat_inj]; exact h44
                  simp only [runsF, HR.out, e0, e1, if_true]
                  cases runsF f (s.data.toList.drop (k2 + 1)) <;> simp
                go_wp2
                exact ⟨⟨k2 + 1, f, acc ++ [((a : Int), (b : Int) - a + 1)], by omega, by go_num, by simp; omega, hB3, HO3, by omega, HGO.out⟩, by simp [intOf]; omega⟩
              · have h44' : ((s[k2].toNat : Int) == 44) = false := by simp; omega
                have HBAD : Hid (runsS s.data.toList = none) := by
                  rw [HFL.out]
                  have e0 : s.data.toList.drop k2 = s[k2] :: s.data.toList.drop (k2 + 1) := drop_cons s k2 hq1
                  have e1 : ¬ s[k2] = 44 := fun e => h44 (by rw [e]; rfl)
                  simp [runsF, HR.out, e0, e1, Hid]
                go_wp2
                go_ret2
                exact ⟨⟨_, by rw [HBAD.out]; rfl, fun r hr => by rw [HBAD.out] at hr; cases hr⟩, hB3⟩
            · have hq2 : ((k2 : Int) == (s.size : Int)) = true := by simp; omega
              have HOK : Hid (runsS s.data.toList = some (acc ++ [((a : Int), (b : Int) - a + 1)])) := by
                rw [HFL.out]
                have e0 : s.data.toList.drop k2 = [] := List.drop_of_length_le (by rw [hsl]; omega)
                simp [runsF, HR.out, e0, Hid]
              go_wp2
              go_ret2
              exact ⟨⟨_, by rw [HOK.out]; rfl, fun r hr => by rw [HOK.out] at hr; cases hr; exact HO3.out⟩, hB3⟩
      · have hnd : ((s.data.toList.drop k).head? = some 45) = False := by
          refine eq_false fun e => hd ?_
          rcases Nat.lt_or_ge k s.size with h1 | h1
          · refine ⟨h1, ?_⟩
            rw [drop_cons s k h1] at e
            have : s[k] = 45 := by simpa using e
            rw [this]; rfl
          · rw [List.drop_of_length_le (by rw [hsl]; exact h1)] at e; cases e
        have HR : Hid (run1 L = some (((a : Int), 1), s.data.toList.drop k)) := by
          unfold run1
          rw [HN.out]
          simp only [HLK.out, hnd, if_false]
          first | rfl | exact trivial
        have hks3 := hks
        have haa : ((a : Int) - a + 1) = 1 := by omega
        rcases Nat.lt_or_ge k s.size with hks2 | hks2
        · have hk1 : (k : Int) < (s.size : Int) := by omega
          have h45' : ((s[k].toNat : Int) == 45) = false := by
            have : s[k].toNat ≠ 45 := fun e => hd ⟨hks2, e⟩
            simp; omega
          clear hd hnd
          have hac1 : acc.length + 1 ≤ maxLen := by unfold maxLen; omega
          have hac2 : (acc.length + 1) * 16 ≤ 140737488355328 := by omega
          go_wp2_with (at_builtin; refine wpList_appL rfl _ _ 25 rfl w.heap.size 64 _ 2 16 Twin.infoR rfl (by decide) Tryd.underlying25 _ _ _ rfl (HO.out.alloc _) ⟨w1.heap.size, 0, none⟩ 1 1 [.int .i64 (a : Int), .int .i64 (1)] rfl rfl (news_block (cs := #[.int .i64 (a : Int), .int .i64 (1)]) (Go.heap_alloc_new _ _)) (by simp [Value.oneCell']) (by decide) hac1 hac2 (by simp; omega) ?_)
          intro g cap w3 ho3 hgr3 _ _
          have hB3 : Below w.heap.size w w3 := (hB.alloc hwr _).grown hgr3 (by simp; omega) (fun k hk => (HO.out.lt k hk).1)
          have HO3 : Hid (w3.ownsRow w.heap.size 64 2 (.slice (some ⟨g, 0, none⟩) (acc.length + 1) cap) (acc ++ [((a : Int), 1)]).length (rows2 (acc ++ [((a : Int), 1)]))) := by
            refine Lib.hid ?_
            rw [rows2_snoc, List.length_append]; exact ho3
          clear ho3 hgr3
          have hq1 := hks2
          have hq2 : ((k : Int) == (s.size : Int)) = false := by simp; omega
          by_cases h44 : s[k].toNat = 44
          · have h44' : ((s[k].toNat : Int) == 44) = true := by simp [h44]
            have HGO : Hid (runsS s.data.toList = (runsF f (s.data.toList.drop (k + 1))).map ((acc ++ [((a : Int), 1)]) ++ ·)) := by
              refine Lib.hid ?_
              rw [HFL.out]
              have e0 : s.data.toList.drop k = s[k] :: s.data.toList.drop (k + 1) := drop_cons s k hq1
              have e1 : s[k] = 44 := by rw [← UInt8.toNat_inj]; exact h44
              simp only [runsF, HR.out, e0, e1, if_true]
              cases runsF f (s.data.toList.drop (k + 1)) <;> simp
            go_wp2
            exact ⟨⟨k + 1, f, acc ++ [((a : Int), 1)], by omega, by go_num, by simp; omega, hB3, HO3, by omega, HGO.out⟩, by simp [intOf]; omega⟩
          · have h44' : ((s[k].toNat : Int) == 44) = false := by simp; omega
            have HBAD : Hid (runsS s.data.toList = none) := by
              rw [HFL.out]
              have e0 : s.data.toList.drop k = s[k] :: s.data.toList.drop (k + 1) := drop_cons s k hq1
              have e1 : ¬ s[k] = 44 := fun e => h44 (by rw [e]; rfl)
              simp [runsF, HR.out, e0, e1, Hid]
            go_wp2
            go_ret2
            exact ⟨⟨_, by rw [HBAD.out]; rfl, fun r hr => by rw [HBAD.out] at hr; cases hr⟩, hB3⟩
        · have hk1 : ¬ (k : Int) < (s.size : Int) := by omega
          clear hd hnd
          have hac1 : acc.length + 1 ≤ maxLen := by unfold maxLen; omega
          have hac2 : (acc.length + 1) * 16 ≤ 140737488355328 := by omega
          go_wp2_with (at_builtin; refine wpList_appL rfl _ _ 25 rfl w.heap.size 64 _ 2 16 Twin.infoR rfl (by decide) Tryd.underlying25 _ _ _ rfl (HO.out.alloc _) ⟨w1.heap.size, 0, none⟩ 1 1 [.int .i64 (a : Int), .int .i64 (1)] rfl rfl (news_block (cs := #[.int .i64 (a : Int), .int .i64 (1)]) (Go.heap_alloc_new _ _)) (by simp [Value.oneCell']) (by decide) hac1 hac2 (by simp; omega) ?_)
          intro g cap w3 ho3 hgr3 _ _
          have hB3 : Below w.heap.size w w3 := (hB.alloc hwr _).grown hgr3 (by simp; omega) (fun k hk => (HO.out.lt k hk).1)
          have HO3 : Hid (w3.ownsRow w.heap.size 64 2 (.slice (some ⟨g, 0, none⟩) (acc.length + 1) cap) (acc ++ [((a : Int), 1)]).length (rows2 (acc ++ [((a : Int), 1)]))) := by
            refine Lib.hid ?_
            rw [rows2_snoc, List.length_append]; exact ho3
          clear ho3 hgr3
          have hq2 : ((k : Int) == (s.size : Int)) = true := by simp; omega
          have HOK : Hid (runsS s.data.toList = some (acc ++ [((a : Int), 1)])) := by
            rw [HFL.out]
            have e0 : s.data.toList.drop k = [] := List.drop_of_length_le (by rw [hsl]; omega)
            simp [runsF, HR.out, e0, Hid]
          go_wp2
          go_ret2
          exact ⟨⟨_, by rw [HOK.out]; rfl, fun r hr => by rw [HOK.out] at hr; cases hr; exact HO3.out⟩, hB3⟩

end Go.Proofs.YtdfiblaboddbjaaDoor.Prs
