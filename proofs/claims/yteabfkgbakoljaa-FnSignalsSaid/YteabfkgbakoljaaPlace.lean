/-
  Contracts of AtPlaces: the program's and the reference's.
-/
import Derived.Test.YteabfkgbakoljaaExact
import Derived.Test.YteabfkgbakoljaaPhZ
import Derived.Test.YteabfkgbakoljaaRoot
namespace Go.Proofs.Yteabfkgbakoljaa
open Go.RowKit Fl Mem
set_option linter.unusedVariables false
set_option maxRecDepth 100000

/-- The number at a place. -/
def plV (xs : List Nat) (x : Nat) : Nat :=
  if placeN x + 1 < xs.length then fb .add .f32 (xs.getD (placeN x) 0) (fb .mul .f32 (fb .sub .f32 x (floatOfInt .f32 (placeN x : Int))) (fb .sub .f32 (xs.getD (placeN x + 1) 0) (xs.getD (placeN x) 0)))
  else xs.getD (placeN x) 0
def plTo (xs ps : List Nat) (k : Nat) : List Nat := (ps.take k).map (plV xs)
def plOk (xs ps : List Nat) : Bool := isSig xs && isSig ps && ps.all (inR xs.length) && (plTo xs ps ps.length).all (fin .f32)
def plR (xs ps : List Nat) : List Nat := if plOk xs ps = true then plTo xs ps ps.length else []
theorem plR_no {xs ps : List Nat} (h : plOk xs ps = false) : plR xs ps = [] := by unfold plR; rw [h]; rfl
theorem plTo_succ {xs ps : List Nat} {k x : Nat} (h : ps[k]? = some x) : plTo xs ps (k + 1) = plTo xs ps k ++ [plV xs x] := by unfold plTo; rw [take_eq h, List.map_append]; rfl
theorem plTo_len {xs ps : List Nat} {k : Nat} (h : k ≤ ps.length) : (plTo xs ps k).length = k := by simp [plTo]; omega
theorem plR_le (xs ps : List Nat) : (plR xs ps).length ≤ 1000 := by
  unfold plR
  split
  · rename_i h
    unfold plOk at h
    simp only [Bool.and_eq_true] at h
    have := (isSig_len h.1.1.2).2
    rw [plTo_len (by omega)]
    omega
  · simp
theorem sig_all {xs : List Nat} (h : isSig xs = true) : xs.all (fin .f32) = true := by unfold isSig at h; simp only [Bool.and_eq_true] at h; exact h.2
theorem allfin_told {zs ys : List Nat} (h : zs.map (cn .f32) = ys) : zs.all (fin .f32) = ys.all (fin .f32) := by
  rw [← h, List.all_map]
  congr 1
  funext x
  exact (fin_cn _ _).symm
theorem fin_num {x : Nat} (h : fin .f32 x = true) : cn .f32 x = x := by
  obtain ⟨s, m, i, h⟩ := (fin_iff .f32 x).1 h
  exact cn_num (num_nan h)
theorem inR_no {n : Nat} {ps : List Nat} {k x : Nat} (h : ps[k]? = some x) (hx : inR n x = false) : ps.all (inR n) = false := by
  rw [List.all_eq_false]
  exact ⟨x, List.mem_of_getElem? h, by rw [hx]; simp⟩
theorem inR_yes {n : Nat} {ps : List Nat} {k x : Nat} (h : ps[k]? = some x) (hx : inR n x = true) (hp : (ps.take k).all (inR n) = true) : (ps.take (k + 1)).all (inR n) = true := by
  rw [take_eq h, List.all_append, hp]; simp [hx]

theorem inR_true {n x : Nat} (h : inR n x = true) : (FloatKind.f32.format.order x 0 == some Ordering.gt || FloatKind.f32.format.order x 0 == some Ordering.eq) = true ∧
    (FloatKind.f32.format.order x (floatOfInt FloatKind.f32 ((n : Int) - 1)) == some Ordering.lt || FloatKind.f32.format.order x (floatOfInt FloatKind.f32 ((n : Int) - 1)) == some Ordering.eq) = true := by
  unfold inR at h
  rwa [Bool.and_eq_true] at h
theorem inR_false {n x : Nat} (h : inR n x = false) : (FloatKind.f32.format.order x 0 == some Ordering.gt || FloatKind.f32.format.order x 0 == some Ordering.eq) = false ∨
    ((FloatKind.f32.format.order x 0 == some Ordering.gt || FloatKind.f32.format.order x 0 == some Ordering.eq) = true ∧
    (FloatKind.f32.format.order x (floatOfInt FloatKind.f32 ((n : Int) - 1)) == some Ordering.lt || FloatKind.f32.format.order x (floatOfInt FloatKind.f32 ((n : Int) - 1)) == some Ordering.eq) = false) := by
  unfold inR at h
  cases hg : (FloatKind.f32.format.order x 0 == some Ordering.gt || FloatKind.f32.format.order x 0 == some Ordering.eq) with
  | false => exact .inl rfl
  | true => rw [hg, Bool.true_and] at h; exact .inr ⟨rfl, h⟩

section
variable {P : Program} {f : FuncId} {fn : Func}
theorem run_call_floor (hf : P.funcs[f]? = some fn) (hname : (fn.name == "runtime.NumGoroutine") = false) (hb : fn.body.isNone = true) (hn : Extern.findNext fn = none) (he : Extern.find fn = some (Extern.MathFloor.toIntegral "math.archFloor" .down)) {y : Nat} {s : Bool} {m : Nat} {e : Int} (hy : FloatKind.f64.decode y = .number s m e) (w : World) :
    (callFunc f #[.float .f64 y]).run P w = .ok (.value (.float .f64 (floorN y))) w := by
  rw [run_callFunc_extern hf hname hb hn he]
  change (Sem.run P (match FloatKind.f64.decode y with
    | .nan s t =>
      if FloatKind.f64.format.quiet t = t then pure (Value.float .f64 y) else do
      let kept ← choose (.extern "math.Floor,Ceil,Trunc,RoundToEven.signallingNaN kept" 2)
      pure (Value.float .f64 (if kept == 1 then y else FloatKind.f64.encode (.nan s (FloatKind.f64.format.quiet t))))
    | d => pure (Value.float .f64 (FloatKind.f64.encode (d.integral .down)))) w).andThen _ = _
  unfold floorN
  rw [hy]
  rfl
end

theorem floor_calls (w : World) {y : Nat} {s : Bool} {m : Nat} {e : Int} (hy : FloatKind.f64.decode y = .number s m e) : Calls Try.prog 84 #[.float .f64 y] w fun e w' => e = .returned (.float .f64 (floorN y)) ∧ w = w' := by
  have hs := fun (w : World) => run_call_floor (P := Try.prog) (f := 121) Try.func121 (by kernel_rfl) (by kernel_rfl) (by kernel_rfl) (by rfl) hy w
  clear hy
  go_enter Try.func84, Try.ntmps84
  go_wp2
  go_ret
  exact ⟨rfl, rfl⟩


set_option maxHeartbeats 2000000 in
theorem i_AtPlaces {A A' : Option Addr} {n n' c c' : Nat} {xs ps : List Nat} {w : World} (h : Reads w w.heap.size 1 A n (fl .f32 xs)) (hn : n ≤ maxLen) (h' : Reads w w.heap.size 1 A' n' (fl .f32 ps)) (hn' : n' ≤ maxLen) :
    Calls Try.prog 35 #[.slice A n c, .slice A' n' c'] w fun e w' => ∃ v zs, e = .returned (.tuple #[v, .bool (plOk xs ps)]) ∧
      w'.ownsRow w.heap.size 27 1 v zs.length (fl .f32 zs) ∧ Hid (zs.map (cn .f32) = plR xs ps) ∧ Below w.heap.size w w' := by
  have Hl := hide h.map_len
  have Hl' := hide h'.map_len
  have hm := hn
  have hm' := hn'
  unfold maxLen at hm hm'
  cases hs : isSig xs with
  | false =>
    have e : plOk xs ps = false := by unfold plOk; rw [hs]; rfl
    have E := hide e
    clear e
    go_enter Try.func35, Try.ntmps35
    go_wp2_with (go_at_call 45; refine (i_IsSignal _ _ _ xs _ _ h hn).mono ?_; rintro e w' ⟨rfl, m', rfl⟩)
    go_ret2
    exact ⟨_, [], by rw [E.out]; rfl, own_nil _ _ _ _, hide (by rw [plR_no E.out]; rfl), (by repeat (first | exact Below.refl _ _ | exact below_drewN (by assumption) _ | refine below_drewN ?_ _ | refine Below.alloc ?_ (by first | (simp; done) | (simp; omega)) _ | assumption))⟩
  | true =>
    cases hs' : isSig ps with
    | false =>
      have e : plOk xs ps = false := by unfold plOk; rw [hs']; simp
      have E := hide e
      clear e
      go_enter Try.func35, Try.ntmps35
      go_wp2_with (first | (have _t := HA; go_at_call 45; refine (i_IsSignal _ _ _ ps _ _ (h'.drewN _) hn').mono ?_; rintro e w' ⟨rfl, m2, rfl⟩; clear HA) | (go_at_call 45; refine (i_IsSignal _ _ _ xs _ _ h hn).mono ?_; rintro e w' ⟨rfl, m', rfl⟩; have HA : True := trivial))
      go_ret2
      exact ⟨_, [], by rw [E.out]; rfl, own_nil _ _ _ _, hide (by rw [plR_no E.out]; rfl), (by repeat (first | exact Below.refl _ _ | exact below_drewN (by assumption) _ | refine below_drewN ?_ _ | refine Below.alloc ?_ (by first | (simp; done) | (simp; omega)) _ | assumption))⟩
    | true =>
      have h96 : n ≤ 96 := by rw [← Hl.out]; exact (isSig_len hs).2
      have h1n : 1 ≤ n := by rw [← Hl.out]; exact (isSig_len hs).1
      have h96' : n' ≤ 96 := by rw [← Hl'.out]; exact (isSig_len hs').2
      have Hfin := hide (sig_all hs)
      go_enter Try.func35, Try.ntmps35
      go_wp2_with (first | (have _t := HA; go_at_call 45; refine (i_IsSignal _ _ _ ps _ _ (h'.drewN _) hn').mono ?_; rintro e w' ⟨rfl, m2, rfl⟩; clear HA) | (go_at_call 45; refine (i_IsSignal _ _ _ xs _ _ h hn).mono ?_; rintro e w' ⟨rfl, m', rfl⟩; have HA : True := trivial))
      go_loopw [6, 22] (fun v i wr => ∃ (k : Nat) (zs : List Nat), k ≤ n' ∧ i = .int .i64 k ∧ Hid (zs.map (cn .f32) = plTo xs ps k) ∧ Hid ((ps.take k).all (inR n) = true) ∧ wr.ownsRow w.heap.size 27 1 v k (fl .f32 zs) ∧ Below w.heap.size w wr) (fun _ i _ => n' - (intOf i).toNat)
      case atStart => exact ⟨0, [], Nat.zero_le _, rfl, hide rfl, hide rfl, own_emp rfl (Nat.le_refl _), (by repeat (first | exact Below.refl _ _ | exact below_drewN (by assumption) _ | refine below_drewN ?_ _ | refine Below.alloc ?_ (by first | (simp; done) | (simp; omega)) _ | assumption))⟩
      case round =>
        obtain ⟨k, zs, hk, rfl, hzs, hin, hown, hbel⟩ := hrel
        have Hown := hide hown
        have hsz := hbel.size
        clear hown
        by_cases hlt : k < n'
        · obtain ⟨ad, x, rfl, _, hx, hc⟩ := (h'.below hbel).map_at hlt
          cases hr : inR n x with
          | false =>
            have E : Hid (plOk xs ps = false) := hide (by unfold plOk; rw [Hl.out, inR_no hx hr]; simp)
            have Hx := hide hx
            clear hx
            have hr' := inR_false hr
            clear hr
            rcases hr' with r1 | ⟨r1, r2⟩
            all_goals
              go_wp2
              go_ret2
              exact ⟨_, [], by rw [E.out]; rfl, own_nil _ _ _ _, hide (by rw [plR_no E.out]; rfl), hbel⟩
          | true =>
            obtain ⟨hN, hP1, hP2, hP3, ⟨fs, fm, fe, hP4⟩, hP5⟩ := place_ok h1n h96 hr
            obtain ⟨r1, r2⟩ := inR_true hr
            have Hin : Hid ((ps.take (k + 1)).all (inR n) = true) := hide (inR_yes hx hr hin.out)
            have HS := hide (plTo_succ (xs := xs) hx)
            have Hx := hide hx
            clear hx hr hin
            obtain ⟨ad2, y, rfl, _, hy, hcy⟩ := (h.below hbel).map_at hN
            have cv1 : ∀ W : World, (convert 27 33 (.float .f32 x)).run Try.prog W = .ok (.float .f64 (wideN x)) W := by
              intro W
              have := run_convert_ff (P := Try.prog) 27 33 .f32 .f64 x W (by rw [Try.underlying27]; rfl) Try.underlying33
              rw [hP2, hP3] at this
              exact this
            have cv2 : ∀ W : World, (convert 33 3 (.float .f64 (floorN (wideN x)))).run Try.prog W = .ok (.int .i64 (placeN x : Int)) W := by
              intro W
              exact run_convert_float_int (P := Try.prog) (w := W) 33 3 .f64 .i64 _ _ (by rw [Try.underlying33]; rfl) Try.underlying3 hP5
            have Hy : Hid (xs.getD (placeN x) 0 = y) := hide (by rw [List.getD_eq_getElem?_getD, hy]; rfl)
            clear hy hP1 hP2 hP3 hP5
            generalize hNN : placeN x = N at *
            have HNN := hide hNN
            clear hNN
            by_cases hN1 : N + 1 < n
            · obtain ⟨ad3, z, hz3, _, hz, hcz⟩ := (h.below hbel).map_at hN1
              injection hz3 with hz3
              subst hz3
              have Hz : Hid (xs.getD (N + 1) 0 = z) := hide (by rw [List.getD_eq_getElem?_getD, hz]; rfl)
              clear hz
              go_wp2_with (go_at_call 84; refine (floor_calls _ hP4).mono ?_; rintro e w' ⟨rfl, rfl⟩)
              have i1 : (N : Int) < (n : Int) := by omega
              have i2 : (N : Int) + 1 < (n : Int) := by omega
              have i3 : (0 : Int) ≤ (N : Int) + 1 := by omega
              have hcz' : wr.cell? ⟨ad2.block, ad2.off + (N + 1), none⟩ = some (.float .f32 z) := by rw [← hcz]; unfold Addr.add; simp
              have HV : Hid (fb .add .f32 y (fb .mul .f32 (fb .sub .f32 x (floatOfInt .f32 (N : Int))) (fb .sub .f32 z y)) = plV xs x) := hide (by unfold plV; rw [HNN.out, Hl.out, if_pos hN1, Hy.out, Hz.out])
              go_region
              all_goals
                go_wp2_with (at_builtin; refine wpList_append1 rfl (.tmp 67) (.tmp 69) 36 rfl w.heap.size 27 (.float .f32 0) _ 4 info_f32 Try.underlying36 rfl rfl _ _ _ rfl (own_drewN Hown.out _) rfl rfl (by omega) (by omega) (by simp; omega) ?_)
                intro v' w' hown' hb'
                have hbel' : Below w.heap.size w w' := (below_drewN hbel _).trans hb'
                have HT := hide (own_snoc hown')
                clear hown' hb'
                go_wp2
                go_roundw
                case rel => exact ⟨k + 1, _, by omega, by go_num, hide (by rw [HS.out, List.map_append, hzs.out, List.map_singleton, ← HV.out]; exact congrArg (fun v => _ ++ [v]) (fl_eqr (fl_eq (cn_flR _ _ _ _ _) (cn_flR _ _ _ _ _)))), Hin, HT.out, hbel'⟩
                case measure => simp [intOf]; omega
            · have HV : Hid (y = plV xs x) := hide (by unfold plV; rw [HNN.out, Hl.out, if_neg hN1, Hy.out])
              have HC : Hid (cn .f32 y = y) := hide (fin_num (by
                have h1 := Hfin.out
                rw [List.all_eq_true] at h1
                refine h1 y ?_
                rw [← Hy.out, List.getD_eq_getElem?_getD, List.getElem?_eq_getElem (by rw [Hl.out]; exact hN)]
                exact List.getElem_mem _))
              have i2 : ¬ (N : Int) + 1 < (n : Int) := by omega
              clear hN1
              go_wp2_with (first | (go_at_call 84; refine (floor_calls _ hP4).mono ?_; rintro e w' ⟨rfl, rfl⟩) | (at_builtin; refine wpList_append1 rfl (.tmp 67) (.tmp 69) 36 rfl w.heap.size 27 (.float .f32 0) _ 4 info_f32 Try.underlying36 rfl rfl _ _ _ rfl Hown.out rfl rfl (by omega) (by omega) hsz ?_))
              intro v' w' hown' hb'
              have hbel' : Below w.heap.size w w' := hbel.trans hb'
              have HT := hide (own_snoc hown')
              clear hown' hb'
              go_wp2
              go_roundw
              case rel => exact ⟨k + 1, _, by omega, by go_num, hide (by rw [HS.out, List.map_append, hzs.out, List.map_singleton, ← HV.out, HC.out]), Hin, HT.out, hbel'⟩
              case measure => simp [intOf]; omega
        · obtain rfl : k = n' := by omega
          obtain ⟨OA, oc, hov⟩ := own_shape Hown.out
          subst hov
          have HP := hide (Reads.of_own Hown.out)
          have Hok : Hid (plOk xs ps = zs.all (fin .f32)) := hide (by
            have h1 := hin.out
            rw [List.take_of_length_le (by rw [Hl'.out]; omega)] at h1
            unfold plOk
            rw [hs, hs', Hl.out, h1, Hl'.out, allfin_told hzs.out]; rfl)
          cases hok : zs.all (fin .f32) with
          | true =>
            go_wp2_with (go_at_call 60; refine (i_ifAll_yes HP.out (by simp [maxLen]; omega) hok).mono ?_; rintro e w' ⟨rfl, m', rfl⟩)
            go_ret2
            have e : plOk xs ps = true := by rw [Hok.out, hok]
            have hzl : zs.length = k := by have := congrArg List.length hzs.out; rwa [List.length_map, plTo_len (by rw [Hl'.out]; omega)] at this
            exact ⟨_, zs, by rw [e]; rfl, by rw [hzl]; exact own_drewN Hown.out _, hide (by rw [hzs.out, plR, if_pos e, Hl'.out]), below_drewN hbel _⟩
          | false =>
            go_wp2_with (go_at_call 60; refine (i_ifAll_no HP.out (by simp [maxLen]; omega) hok).mono ?_; rintro e w' ⟨rfl, m', rfl⟩)
            go_ret2
            have e : plOk xs ps = false := by rw [Hok.out, hok]
            exact ⟨_, [], by rw [e]; rfl, own_nil _ _ _ _, hide (by rw [plR_no e]; rfl), below_drewN hbel _⟩
end Go.Proofs.Yteabfkgbakoljaa
