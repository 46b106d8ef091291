/-
  The law FnExactStoreAll returns true for all arguments, and writes nothing that was there.
-/
import Derived.Test.YtjfmjeffmnjilaaStA
import Derived.BigGuardPart
namespace Go.Proofs.Ytjfmjeffmnjilaa
open Go.RowKit Fl Mem
set_option linter.unusedVariables false
set_option maxRecDepth 100000

def svBT (q : ByteArray × Int × List Int × List Nat) : Bool := nameB q.1 && (sysB q.2.1 q.2.2.1 && isSig q.2.2.2)
def stBT (q : ByteArray × Int × List Int × List Nat) : ByteArray := stored q.1 q.2.1 q.2.2.1 q.2.2.2
theorem allOk_told {ss ts : List Sv} (h : ts.map svT = ss.map svT) (n : Nat) : allOk ts n = allOk ss n := by
  have e : ∀ l : List Sv, l.all svB = (l.map svT).all svBT := fun l => by rw [List.all_map]; rfl
  unfold allOk
  rw [e, e, h]
theorem catS_told {ss ts : List Sv} (h : ts.map svT = ss.map svT) : catS ts = catS ss := by
  have e : ∀ l : List Sv, catS l = (l.map svT).foldl (fun a q => a ++ stBT q) .empty := fun l => by rw [List.foldl_map]; rfl
  rw [e, e, h]
theorem allT_told {ss ts : List Sv} (h : ts.map svT = ss.map svT) (n : Nat) : allT ts n = allT ss n := by
  unfold allT
  rw [allOk_told h, catS_told h]
set_option maxHeartbeats 4000000 in
theorem law_StoreAll (A : Option Addr) (n c : Nat) (ss : List Sv) (w : World) (h : SvR w w.heap.size A n ss) (hn : n ≤ 9223372036854775807) (hl : ∀ s ∈ ss, SvBig s) :
    Calls Try.prog 6 #[.slice A n c] w fun e w' => e = .returned (.bool true) ∧ Below w.heap.size w w' := by
  go_enter Try.func6, Try.ntmps6
  go_wp2_with fail
  refine (l_szSavedS h (Nat.le_refl _) hn (by omega) (by omega) hl).mono ?_
  rintro e w1 ⟨r1, rfl, hr1, bel1⟩
  rcases hr1 with hr1 | ⟨a1, a2, a3, a4⟩
  · go_wp2
    go_ret
    exact ⟨rfl, bel1⟩
  have i1 : ¬ r1 < 0 := by omega
  have m1 : n ≤ 1048576 := by omega
  have H := hide h
  have L := hide a4
  clear h a4 a3 a2
  go_wp2_with fail
  refine (l_toSavedS (H.out.below bel1) bel1.size m1 L.out).mono ?_
  rintro e w3 ⟨g3, s3, rfl, hs3, ht3, hl3, hg3, hb3⟩
  have bel3 : Below w.heap.size w w3 := bel1.trans (hb3.mono bel1.size)
  clear hb3 bel1
  go_wp2_with fail
  refine (s_StoreAll hs3 (Nat.le_refl _) m1 hl3).mono ?_
  rintro e w5 ⟨rfl, hb5⟩
  rw [allOk_told ht3, allT_told ht3]
  have bel5 : Below w.heap.size w w5 := bel3.trans (hb5.mono bel3.size)
  clear hb5 bel3 hs3 ht3 hl3 hg3
  obtain ⟨R, HR⟩ : ∃ R, Hid (allOk ss n = R) := ⟨_, hide rfl⟩
  obtain ⟨T, HT⟩ : ∃ T, Hid (allT ss n = T) := ⟨_, hide rfl⟩
  rw [HR.out, HT.out]
  go_wp2_with fail
  refine (l_toSavedS (H.out.below bel5) bel5.size m1 L.out).mono ?_
  rintro e w6 ⟨g6, s6, rfl, hs6, ht6, hl6, hg6, hb6⟩
  have bel6 : Below w.heap.size w w6 := bel5.trans (hb6.mono bel5.size)
  clear hb6 bel5
  go_wp2_with fail
  refine (i_StoreAll hs6 (Nat.le_refl _) m1 hl6).mono ?_
  rintro e w8 ⟨rfl, hb8⟩
  rw [allOk_told ht6, allT_told ht6, HR.out, HT.out]
  have bel8 : Below w.heap.size w w8 := bel6.trans (hb8.mono bel6.size)
  replace hs6 := (hs6.below hb8).more hb8.size
  clear hb8 bel6
  have hne : (R != R) = false := by simp
  have hne2 : (!T.toList == T.toList) = false := by simp
  go_wp2_with fail
  refine (l_toSavedS (H.out.below bel8) bel8.size m1 L.out).mono ?_
  rintro e w9 ⟨g9, s9, rfl, hs9, ht9, hl9, hg9, hb9⟩
  have bel9 : Below w.heap.size w w9 := bel8.trans (hb9.mono bel8.size)
  replace hs6 := (hs6.below hb9).more hb9.size
  clear hb9 bel8
  go_wp2_with fail
  refine (l_eqSavedS hs6 hs9 (Nat.le_refl _) (Nat.le_refl _) (by omega) (svLes_up hl6 (by omega)) (svLes_up hl9 (by omega)) (svKs_of_T (ht6.trans ht9.symm))).mono ?_
  rintro e w10 ⟨rfl, hb10⟩
  have bel10 : Below w.heap.size w w10 := bel9.trans (hb10.mono bel9.size)
  clear hb10 bel9 hs6 hs9
  go_wp2
  go_ret
  exact ⟨rfl, bel10⟩
end Go.Proofs.Ytjfmjeffmnjilaa
