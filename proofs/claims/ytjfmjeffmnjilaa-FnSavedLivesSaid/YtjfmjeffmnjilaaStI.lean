/-
  The bytes of a system with a signal: the program's walk.
-/
import Derived.Test.YtjfmjeffmnjilaaStP
import Derived.Test.YtjfmjeffmnjilaaSvC
import Derived.Deep.RegionHeld3
import Derived.Laws.OwnMore
import Derived.ArgAppend
import Derived.Lib.SlBytesConst
import Derived.Lib.SmallJoins
namespace Go.Proofs.Ytjfmjeffmnjilaa
open Go.RowKit Fl Mem
set_option linter.unusedVariables false
set_option maxRecDepth 100000

theorem cn_le {x : Nat} (h : Wf .f32 x) : cn .f32 x ≤ 4294967295 := by
  have hw : 2 ^ FloatKind.f32.format.width = 4294967296 := by decide +kernel
  unfold Wf at h
  rw [hw] at h
  cases hn : isNan .f32 x with
  | true => rw [cn_nan hn]; decide +kernel
  | false => rw [cn_num hn]; omega
theorem ub_one {l : List UInt8} : ∀ u ∈ ub l, u.oneCell' = true := by
  intro u hu
  rw [List.mem_map] at hu
  obtain ⟨b, _, rfl⟩ := hu
  rfl
theorem ub1 {n : Nat} (h : n < 256) : ub [UInt8.ofNat n] = [.int .u8 (n : Int)] := by
  have : (UInt8.ofNat n).toNat = n := by simp; omega
  simp only [ub, List.map_cons, List.map_nil, this]
theorem ub2 {n m : Nat} (h : n < 256) (h' : m < 256) : ub [UInt8.ofNat n, UInt8.ofNat m] = [.int .u8 (n : Int), .int .u8 (m : Int)] := by
  have e1 : (UInt8.ofNat n).toNat = n := by simp; omega
  have e2 : (UInt8.ofNat m).toNat = m := by simp; omega
  simp only [ub, List.map_cons, List.map_nil, e1, e2]
theorem below_of_own {w w' : World} {base : Nat} {e : TypeId} {size n : Nat} {v : Value} {xs : List Value} (hg : w.grownBy w' v.ownBlock) (ho : w.ownsRow base e size v n xs) (hb : base ≤ w.heap.size) : Below base w w' :=
  (Below.refl _ _).grown hg hb (fun g hgg => (ho.lt g hgg).1)
theorem lit_kept {w w' : World} {base : Nat} {e e' : TypeId} {n : Nat} {v u1 u2 : Value} {xs : List Value} (ho : w.ownsRow base e' 1 v n xs) (hg : (w.alloc (.cells #[u1, u2] e)).grownBy w' v.ownBlock) :
    ∀ j u, [u1, u2][j]? = some u → w'.cell? ((⟨w.heap.size, 0, none⟩ : Addr).add j) = some u := fun j u hu =>
  hg.cell (cells2 j u hu) (fun e => by
    rw [block_of_add] at e
    have h9 : w.heap.size < w.heap.size := (ho.lt w.heap.size e.symm).2
    omega)
theorem lit_one {k k' : Int} : ∀ u ∈ [Value.int .u8 k, Value.int .u8 k'], u.oneCell' = true := by
  intro u hu
  rcases List.mem_cons.1 hu with rfl | hu
  · rfl
  · obtain rfl := List.mem_singleton.1 hu
    rfl
theorem sv_cell' {w w' : World} {B : Nat} {p : Addr} {v : Value} (h : w.cell? p = some v) (hb : Below B w.drew w') (hp : p.block < B) : w'.cell? p = some v := (hb.cell hp).trans h
set_option maxHeartbeats 4000000 in
theorem i_StoreSavedG {s : Sv} {B : Nat} {w : World} (h : SvOk w B s) (hB : B ≤ w.heap.size) (hl : SvLe 9223372036854775807 s) :
    Calls Try.prog 22 #[svV s] w fun e w' => e = .returned (.tuple #[.string (if svB s = true then stored s.nm s.parts s.ps s.xs else .empty), .bool (svB s)]) ∧ Below w.heap.size w w' := by
  have H1 := fun o => h.alloc hB o
  have Hsh := hide (svB_short (s := s))
  rcases s with ⟨nm, parts, PA, pn, pc, ps, SA, sn, sc, xs⟩
  cases hv : svB ⟨nm, parts, PA, pn, pc, ps, SA, sn, sc, xs⟩ with
  | false =>
    go_enter Try.func22, Try.ntmps22
    go_wp2_with (go_at_call 19; refine (calls_bool (i_ValidSavedG (H1 _) (by simp; omega) hl) hv).mono ?_; rintro e w2 ⟨rfl, hb2⟩)
    go_ret2
    exact ⟨rfl, (below_al' (Nat.le_refl _) _).trans (hb2.mono (by simp))⟩
  | true =>
    obtain ⟨q1, q2, q3, q4, q5, q6, q7, q8, q9, q10⟩ := Hsh.out hv
    dsimp only at q1 q2 q3 q4 q5 q6 q7 q8 q9 q10
    have hpl : ps.length = pn := h.paths.map_len
    have hsl : xs.length = sn := by have := h.sig.1; simpa using this
    have H1' := hide H1
    clear Hsh H1 h
    go_enter Try.func22, Try.ntmps22
    go_wp2_with fail
    refine (calls_bool (i_ValidSavedG (H1'.out _) (by simp; omega) hl) hv).mono ?_
    rintro e w2 ⟨rfl, hb⟩
    have A : Hid (Blk w2 w.heap.size 38 #[.string nm, .int .i64 parts, .slice PA pn pc, .slice SA sn sc]) := hide ((Blk.new w _ _).below hb (by simp))
    have H := hide ((H1'.out _).below (hb.mono (by simp; omega)))
    have hs2 : w.heap.size + 1 ≤ w2.heap.size := by have := hb.size; simpa using this
    have bel : Below (w.heap.size + 1) w2 w2 := Below.refl _ _
    have bel0 : Below w.heap.size w w2 := (below_al' (Nat.le_refl _) _).trans (hb.mono (by simp))
    clear hb H1'
    have A0 : w2.cell? ⟨w.heap.size, 0, none⟩ = some (.string nm) := A.out.cell 0
    have A1 : w2.cell? ⟨w.heap.size, 1, none⟩ = some (.int .i64 parts) := A.out.cell 1
    have A2 : w2.cell? ⟨w.heap.size, 2, none⟩ = some (.slice PA pn pc) := A.out.cell 2
    have A3 : w2.cell? ⟨w.heap.size, 3, none⟩ = some (.slice SA sn sc) := A.out.cell 3
    have i1 : (nm.size : Int) % 256 = (nm.size : Int) := by omega
    have hcv := Go.Lib.run_convert_bytes_const (P := Try.prog) w2 51 5 #[.int .u8 76, .int .u8 73, .int .u8 86, .int .u8 49] 4 4 Try.underlying51 Try.underlying5
    obtain ⟨W1, hW1⟩ : ∃ W, W = w2.alloc (.cells #[.int .u8 76, .int .u8 73, .int .u8 86, .int .u8 49] 5 (4, 5)) := ⟨_, rfl⟩
    have hcv' : (convert 51 51 (.slice (some ⟨w2.heap.size, 0, none⟩) 4 4)).run Try.prog (w2.alloc (.cells #[.int .u8 76, .int .u8 73, .int .u8 86, .int .u8 49] 5)) = .ok (.slice (some ⟨w2.heap.size, 0, none⟩) 4 4) W1 := by rw [hW1]; exact hcv
    clear hcv
    have hb1 : Below w2.heap.size w2 W1 := by rw [hW1]; exact (Below.refl _ _).alloc (Nat.le_refl _) _
    have HZ := hide (show W1.heap.size = w2.heap.size + 1 by rw [hW1]; simp)
    have hC : ∀ j u, (ub [76, 73, 86, 49])[j]? = some u → W1.cell? ⟨w2.heap.size, j, none⟩ = some u := by
      rw [hW1]
      intro j u hu
      rw [World.cell?_alloc_mark]
      simpa using hu
    clear hW1
    replace A := hide (blk_below A.out hb1)
    replace H := hide (H.out.below (hb1.mono (by omega)))
    replace bel0 := bel0.trans (hb1.mono (by omega))
    clear A0 A1 A2 A3
    have A0 : W1.cell? ⟨w.heap.size, 0, none⟩ = some (.string nm) := A.out.cell 0
    have A1 : W1.cell? ⟨w.heap.size, 1, none⟩ = some (.int .i64 parts) := A.out.cell 1
    have A2 : W1.cell? ⟨w.heap.size, 2, none⟩ = some (.slice PA pn pc) := A.out.cell 2
    have A3 : W1.cell? ⟨w.heap.size, 3, none⟩ = some (.slice SA sn sc) := A.out.cell 3
    obtain ⟨i0, hi, hz0, hz1, hz2⟩ := info_parts info_b8
    have HC := hide hC
    clear hC
    go_wp2_with (at_builtin; refine wpList_append_grows _ rfl (.tmp 15) (.tmp 20) 51 rfl 5 i0 (.int .u8 0) 1 1 Try.underlying51 hi hz0 hz1 hz2 rfl (by omega) (some ⟨w2.heap.size, 0, none⟩) 4 4 (ub [76, 73, 86, 49]) rfl (fun e => by cases e) rfl ?ho ⟨W1.heap.size, 0, none⟩ 1 1 (ub [UInt8.ofNat nm.size]) rfl rfl ?hn ?h1 (by omega) (by simp [maxLen]) (by omega) ?_)
    case ho =>
      intro b e j u hu
      obtain rfl := Option.some.inj e
      rw [Addr.add_lit, Nat.zero_add, World.cell?_alloc_lt _ _ _ (by show w2.heap.size < W1.heap.size; have := HZ.out; omega)]
      exact HC.out j u hu
    case hn =>
      rw [ub1 (show nm.size < 256 by omega)]
      exact cell_one_new _ _ _
    case h1 => exact ub_one
    intro v3 w3 ho3 hg3
    have hb3 : Below W1.heap.size W1 w3 := ((Below.refl _ _).alloc (Nat.le_refl _) _).grown hg3 (by simp) (fun k hk => by cases hk)
    have hw1 : w.heap.size + 1 ≤ W1.heap.size := by have := HZ.out; omega
    have HO3 : Hid (w3.ownsRow (w.heap.size + 1) 5 1 v3 5 (ub (st0 nm))) := hide (by rw [show ub (st0 nm) = [.int .u8 76, .int .u8 73, .int .u8 86, .int .u8 49, .int .u8 (nm.size : Int)] from by unfold st0; rw [show ub ([76, 73, 86, 49] ++ [UInt8.ofNat nm.size]) = ub [76, 73, 86, 49] ++ ub [UInt8.ofNat nm.size] from List.map_append, ub1 (by omega)]; rfl]; exact own_up ho3 (by omega))
    replace A := hide (blk_below A.out hb3)
    replace H := hide (H.out.below (hb3.mono (by omega)))
    replace bel0 := bel0.trans (hb3.mono (by omega))
    have hw3 : w.heap.size + 1 ≤ w3.heap.size := Nat.le_trans hw1 hb3.size
    clear A0 A1 A2 A3 hb1 HC HZ hb3 ho3 hg3 hcv' hw1 bel
    generalize hB1 : w.heap.size + 1 = b1 at *
    have hbb : w.heap.size < b1 := by omega
    have A0 : w3.cell? ⟨w.heap.size, 0, none⟩ = some (.string nm) := A.out.cell 0
    have A1 : w3.cell? ⟨w.heap.size, 1, none⟩ = some (.int .i64 parts) := A.out.cell 1
    have A2 : w3.cell? ⟨w.heap.size, 2, none⟩ = some (.slice PA pn pc) := A.out.cell 2
    have A3 : w3.cell? ⟨w.heap.size, 3, none⟩ = some (.slice SA sn sc) := A.out.cell 3
    have HO3D : w3.drew.ownsRow b1 5 1 v3 5 (ub (st0 nm)) := HO3.out
    have hw3D : b1 ≤ w3.drew.heap.size := hw3
    have m1 : parts % 256 = parts := by omega
    have m2 : (pn : Int) % 256 = (pn : Int) := by omega
    have m3 : IntKind.u8.wrap parts = parts := by rw [IntKind.wrap_u8]; omega
    have m4 : IntKind.u8.wrap (pn : Int) = (pn : Int) := by rw [IntKind.wrap_u8]; omega
    go_wp2
    go_region_held3 (fun w' => (w'.cell? ⟨w.heap.size, 0, none⟩ = some (.string nm) ∧ w'.cell? ⟨w.heap.size, 1, none⟩ = some (.int .i64 parts) ∧ w'.cell? ⟨w.heap.size, 2, none⟩ = some (.slice PA pn pc) ∧ w'.cell? ⟨w.heap.size, 3, none⟩ = some (.slice SA sn sc))) (first | assumption | go_keep)
      (first
        | (refine step_appendS rfl (.tmp 22) (.tmp 24) 51 9 rfl b1 5 info_b8 Try.underlying51 Try.underlying9 v3 5 (ub (st0 nm)) (by simp [Act.eval]; done) HO3D nm (by simp [Act.eval]; done) (by omega) hw3D ?_; intro v4 w4 ho4 hg4; have T4 : True := trivial; have Bl4 : Below b1 w3.drew w4 := below_of_own hg4 HO3D hw3D; have K4 : w4.cell? ⟨w.heap.size, 0, none⟩ = some (.string nm) ∧ w4.cell? ⟨w.heap.size, 1, none⟩ = some (.int .i64 parts) ∧ w4.cell? ⟨w.heap.size, 2, none⟩ = some (.slice PA pn pc) ∧ w4.cell? ⟨w.heap.size, 3, none⟩ = some (.slice SA sn sc) := ⟨sv_cell' A0 Bl4 hbb, sv_cell' A1 Bl4 hbb, sv_cell' A2 Bl4 hbb, sv_cell' A3 Bl4 hbb⟩)
        | (have _t := T4; refine step_append2c rfl (.tmp 25) (.tmp 35) 51 rfl b1 5 (.int .u8 0) _ _ 1 info_b8 Try.underlying51 rfl rfl v4 (5 + nm.size) _ (by simp [Act.eval]; done) ho4 (by simp [Act.eval]; done) rfl rfl (by omega) (by omega) (Nat.le_trans hw3D Bl4.size) ?_; intro v6 w6 ho6 hb6; have Bl6 : Below b1 w3.drew w6 := Bl4.trans hb6; have K_w6 : w6.cell? ⟨w.heap.size, 0, none⟩ = some (.string nm) ∧ w6.cell? ⟨w.heap.size, 1, none⟩ = some (.int .i64 parts) ∧ w6.cell? ⟨w.heap.size, 2, none⟩ = some (.slice PA pn pc) ∧ w6.cell? ⟨w.heap.size, 3, none⟩ = some (.slice SA sn sc) := ⟨sv_cell' A0 Bl6 hbb, sv_cell' A1 Bl6 hbb, sv_cell' A2 Bl6 hbb, sv_cell' A3 Bl6 hbb⟩)
        | (have _t := T5; refine step_appendN rfl (.tmp 25) (.tmp 35) 51 rfl b1 5 (.int .u8 0) 1 info_b8 Try.underlying51 rfl v4 (5 + nm.size) _ (by simp [Act.eval]; done) ho4 ⟨w3.drew.heap.size, 0, none⟩ 2 2 [.int .u8 parts, .int .u8 (pn : Int)] (by simp [Act.eval]; done) rfl HL lit_one (by omega) (by omega) (Nat.le_trans hw3D Bl4.size) ?_; intro v6 w6 ho6 hg6; have Bl6 : Below b1 w3.drew w6 := Bl4.trans (below_of_own hg6 ho4 (Nat.le_trans hw3D Bl4.size)); have K_w6 : w6.cell? ⟨w.heap.size, 0, none⟩ = some (.string nm) ∧ w6.cell? ⟨w.heap.size, 1, none⟩ = some (.int .i64 parts) ∧ w6.cell? ⟨w.heap.size, 2, none⟩ = some (.slice PA pn pc) ∧ w6.cell? ⟨w.heap.size, 3, none⟩ = some (.slice SA sn sc) := ⟨sv_cell' A0 Bl6 hbb, sv_cell' A1 Bl6 hbb, sv_cell' A2 Bl6 hbb, sv_cell' A3 Bl6 hbb⟩)
        | (refine step_appendS rfl (.tmp 22) (.tmp 24) 51 9 rfl b1 5 info_b8 Try.underlying51 Try.underlying9 v3 5 (ub (st0 nm)) (by simp [Act.eval]; done) (HO3D.alloc (.cells #[.int .u8 parts, .int .u8 (pn : Int)] 5)) nm (by simp [Act.eval]; done) (by omega) (by show b1 ≤ (w3.alloc _).heap.size; rw [World.size_alloc]; omega) ?_; intro v4 w4 ho4 hg4; have T5 : True := trivial; have Bl4 : Below b1 w3.drew w4 := ((Below.refl _ _).alloc hw3D _).trans (below_of_own hg4 (HO3D.alloc _) (by show b1 ≤ (w3.alloc _).heap.size; rw [World.size_alloc]; omega)); have K_w4 : w4.cell? ⟨w.heap.size, 0, none⟩ = some (.string nm) ∧ w4.cell? ⟨w.heap.size, 1, none⟩ = some (.int .i64 parts) ∧ w4.cell? ⟨w.heap.size, 2, none⟩ = some (.slice PA pn pc) ∧ w4.cell? ⟨w.heap.size, 3, none⟩ = some (.slice SA sn sc) := ⟨sv_cell' A0 Bl4 hbb, sv_cell' A1 Bl4 hbb, sv_cell' A2 Bl4 hbb, sv_cell' A3 Bl4 hbb⟩; have HL : ∀ j u, [Value.int .u8 parts, Value.int .u8 (pn : Int)][j]? = some u → w4.cell? ((⟨w3.drew.heap.size, 0, none⟩ : Addr).add j) = some u := lit_kept HO3D hg4))
    all_goals
      have HO6 : Hid (w6.ownsRow b1 5 1 v6 (7 + nm.size) (ub (st1 nm parts ps))) := hide (by
        rw [show ub (st1 nm parts ps) = ub (st0 nm) ++ Go.Lib.strCells nm ++ [.int .u8 parts, .int .u8 (pn : Int)] from by
          unfold st1
          rw [show ub (st0 nm ++ nm.data.toList ++ [UInt8.ofNat parts.toNat, UInt8.ofNat ps.length]) = ub (st0 nm) ++ Go.Lib.strCells nm ++ ub [UInt8.ofNat parts.toNat, UInt8.ofNat ps.length] from by simp [ub, Go.Lib.strCells], ub2 (by omega) (by omega), hpl, show ((parts.toNat : Nat) : Int) = parts by omega], show 7 + nm.size = 5 + nm.size + 2 by omega]
        exact ho6)
      have Bl : Below b1 w3 w6 := ⟨Bl6.os, Bl6.tape, Bl6.output, Bl6.size, Bl6.block⟩
      have A6 := hide (Blk.below A.out Bl hbb)
      have H6 := hide (H.out.below (Bl.mono (by omega)))
      have bel6 := bel0.trans (Bl.mono (by omega))
      have hw6 : b1 ≤ w6.heap.size := Nat.le_trans hw3 Bl.size
      have ek : pn ≤ 64 := by omega
      have es : sn ≤ 96 := by omega
      have HPL := hide hpl
      have HSL := hide hsl
      have HQ9 := hide q9
      clear A H bel0 Bl Bl6 ho6 K_w6 Bl4 A0 A1 A2 A3 hw3D hpl hsl q9 q10
      try clear HL
      try clear T4
      try clear T5
      try clear K4
      try clear K_w4
      try clear hb6
      try clear hg6
      try clear hg4
      try clear ho4
      clear HO3D HO3
      have A0 : w6.cell? ⟨w.heap.size, 2, none⟩ = some (.slice PA pn pc) := A6.out.cell 2
      go_wp2
      go_loopw [4, 6, 41] (fun s4 _ i wr => ∃ k : Nat, k ≤ pn ∧ i = .int .i64 k ∧ Hid (wr.ownsRow b1 5 1 s4 (7 + nm.size + 2 * k) (ub (st2 nm parts ps k))) ∧ Below b1 w6 wr) (fun _ _ i _ => pn - (intOf i).toNat)
      case atStart => exact ⟨0, Nat.zero_le _, rfl, hide (by rw [show st2 nm parts ps 0 = st1 nm parts ps from by simp [st2]]; exact HO6.out), Below.refl _ _⟩
      case round =>
        obtain ⟨k, hk, rfl, hown, hbel⟩ := hrel
        by_cases hlt : k < pn
        · obtain ⟨ad, x, rfl, _, hx, hc⟩ := (H6.out.paths.below (hbel.mono (by omega))).map_at hlt
          obtain ⟨x0, x1⟩ := HQ9.out x (List.mem_of_getElem? hx)
          obtain ⟨q, rfl⟩ := Int.eq_ofNat_of_zero_le (show 0 ≤ x by omega)
          have HS := hide (st2_succ (nm := nm) (parts := parts) hx)
          have hkI : (k : Int) < (pn : Int) := by omega
          have hkI0 : (0 : Int) ≤ (k : Int) := by omega
          clear hx
          go_wp2_with fail
          refine (i_bytesOf (count := 2) (q := q) hown.out (Nat.le_trans hw6 hbel.size) (by omega) (by omega) (by omega)).mono ?_
          rintro e w7 ⟨v7, rfl, ho7, hb7⟩
          have HO7 : Hid (w7.ownsRow b1 5 1 v7 (7 + nm.size + 2 * (k + 1)) (ub (st2 nm parts ps (k + 1)))) := hide (by rw [HS.out, show 7 + nm.size + 2 * (k + 1) = 7 + nm.size + 2 * k + 2 by omega]; exact ho7)
          have hbel' := hbel.trans hb7
          clear ho7 hb7 hown hbel
          go_wp2
          go_roundw
          case rel => exact ⟨k + 1, by omega, by go_num, HO7, hbel'⟩
          case measure => (simp [intOf]; try omega)
        · obtain rfl : k = pn := by omega
          have hkI : ¬ (k : Int) < (k : Int) := by omega
          have A8 := hide (Blk.below A6.out hbel hbb)
          have H8 := hide (H6.out.below (hbel.mono (by omega)))
          have bel8 := bel6.trans (hbel.mono (by omega))
          have hw8 : b1 ≤ wr.heap.size := Nat.le_trans hw6 hbel.size
          have a3 : wr.cell? ⟨w.heap.size, 3, none⟩ = some (.slice SA sn sc) := A8.out.cell 3
          have i5 : (sn : Int) % 256 = (sn : Int) := by have := HSL.out; omega
          have i6 : IntKind.u8.wrap (sn : Int) = (sn : Int) := by rw [IntKind.wrap_u8]; have := HSL.out; omega
          go_wp2_with (at_builtin; refine wpList_append1 rfl (.tmp 49) (.tmp 54) 51 rfl b1 5 (.int .u8 0) _ 1 info_b8 Try.underlying51 rfl rfl _ _ _ rfl hown.out rfl rfl (by omega) (by omega) hw8 ?_)
          intro v9 w9 ho9 hb9
          have HO9 : Hid (w9.ownsRow b1 5 1 v9 (8 + nm.size + 2 * k) (ub (st3 nm parts ps xs))) := hide (by
            rw [show ub (st3 nm parts ps xs) = ub (st2 nm parts ps k) ++ [.int .u8 (sn : Int)] from by
              unfold st3
              rw [HPL.out, show ub (st2 nm parts ps k ++ [UInt8.ofNat xs.length]) = ub (st2 nm parts ps k) ++ ub [UInt8.ofNat xs.length] from List.map_append, ub1 (by omega), HSL.out], show 8 + nm.size + 2 * k = 7 + nm.size + 2 * k + 1 by omega]
            exact ho9)
          have A9 := hide (Blk.below A8.out hb9 hbb)
          have H9 := hide (H8.out.below (hb9.mono (by omega)))
          have bel9 := bel8.trans (hb9.mono (by omega))
          have hw9 : b1 ≤ w9.heap.size := Nat.le_trans hw8 hb9.size
          clear ho9 hb9 hown hbel A8 H8 bel8 a3 i5 i6 A6 H6 bel6 A0 HO6
          have a3 : w9.cell? ⟨w.heap.size, 3, none⟩ = some (.slice SA sn sc) := A9.out.cell 3
          go_wp2
          go_loopw [4, 8, 59] (fun s4 _ i wr => ∃ m : Nat, m ≤ sn ∧ i = .int .i64 m ∧ Hid (wr.ownsRow b1 5 1 s4 (8 + nm.size + 2 * k + 4 * m) (ub (st4 nm parts ps xs m))) ∧ Below b1 w9 wr) (fun _ _ i _ => sn - (intOf i).toNat)
          case atStart => exact ⟨0, Nat.zero_le _, rfl, hide (by rw [show st4 nm parts ps xs 0 = st3 nm parts ps xs from by simp [st4]]; exact HO9.out), Below.refl _ _⟩
          case round =>
            obtain ⟨m, hm, rfl, hown, hbel⟩ := hrel
            by_cases hlt : m < sn
            · obtain ⟨ad2, x, had, _, hx, hc⟩ := (H9.out.sig.below (hbel.mono (by omega))).map_at hlt
              obtain rfl : SA = some ad2 := had
              have wx := H9.out.wf x (List.mem_of_getElem? hx)
              have HS := hide (st4_succ (nm := nm) (parts := parts) (ps := ps) hx)
              have hmI : (m : Int) < (sn : Int) := by omega
              have hmI0 : (0 : Int) ≤ (m : Int) := by omega
              have hcn : cn .f32 x ≤ 4294967295 := cn_le wx
              clear hx
              go_wp2_with fail
              refine (i_BitsOf2 wx).mono ?_
              rintro e w' ⟨rfl, rfl⟩
              go_wp2_with fail
              refine (i_bytesOf (count := 4) (q := cn .f32 x) hown.out (Nat.le_trans hw9 hbel.size) (by omega) (by omega) hcn).mono ?_
              rintro e w7 ⟨v7, rfl, ho7, hb7⟩
              have HO7 : Hid (w7.ownsRow b1 5 1 v7 (8 + nm.size + 2 * k + 4 * (m + 1)) (ub (st4 nm parts ps xs (m + 1)))) := hide (by rw [HS.out, show 8 + nm.size + 2 * k + 4 * (m + 1) = 8 + nm.size + 2 * k + 4 * m + 4 by omega]; exact ho7)
              have hbel' := hbel.trans hb7
              clear ho7 hb7 hown hbel
              go_wp2
              go_roundw
              case rel => exact ⟨m + 1, by omega, by go_num, HO7, hbel'⟩
              case measure => (simp [intOf]; try omega)
            · obtain rfl : m = sn := by omega
              have hmI : ¬ (m : Int) < (m : Int) := by omega
              have bel10 := bel9.trans (hbel.mono (by omega))
              have hw10 : b1 ≤ wr.heap.size := Nat.le_trans hw9 hbel.size
              have HL4 := hide (st4_len (nm := nm) (parts := parts) (ps := ps) (xs := xs) (Nat.le_refl _))
              have hcv := conv_own hown.out (by
                intro e
                have := congrArg List.length e
                rw [st4_len (by rw [HSL.out]; exact Nat.le_refl _)] at this
                simp at this)
              have hck : Calls Try.prog 56 #[.int .i64 0, .string ⟨(st4 nm parts ps xs m).toArray⟩] wr fun e w' => e = .returned (.tuple #[.int .i64 (chk 0 ⟨(st4 nm parts ps xs m).toArray⟩ : Int), .bool true]) ∧ w' = wr := i_CheckOf (n := 0) (by omega) (by
                show (st4 nm parts ps xs m).toArray.size ≤ _
                rw [List.size_toArray, st4_len (by rw [HSL.out]; exact Nat.le_refl _)]
                have e1 := HPL.out
                have e2 := HSL.out
                omega)
              have hlt9 : chk 0 ⟨(st4 nm parts ps xs m).toArray⟩ < 65003 := chkL_lt (by omega) _
              have HF := hide (show stL nm parts ps xs = st4 nm parts ps xs m ++ leB (chk 0 ⟨(st4 nm parts ps xs m).toArray⟩) 2 from by unfold stL chk; rw [HSL.out])
              generalize chk 0 ⟨(st4 nm parts ps xs m).toArray⟩ = C at *
              go_wp2_with fail
              refine hck.mono ?_
              rintro e w' ⟨rfl, hw⟩
              rw [hw]
              clear hck hcv
              go_wp2_with fail
              refine (i_bytesOf (count := 2) (q := C) hown.out hw10 (by omega) (by omega) (by omega)).mono ?_
              rintro e w11 ⟨v11, rfl, ho11, hb11⟩
              rw [← HF.out] at ho11
              have hcv2 := conv_own ho11 (by
                intro e
                have := congrArg List.length e
                rw [stL_len] at this
                simp at this)
              go_wp2
              go_ret2
              exact ⟨rfl, bel10.trans (hb11.mono (by omega))⟩
theorem i_StoreSaved {s : Sv} {B : Nat} {w : World} (h : SvOk w B s) (hB : B ≤ w.heap.size) (hl : SvLe 1048576 s) :
    Calls Try.prog 22 #[svV s] w fun e w' => e = .returned (.tuple #[.string (if svB s = true then stored s.nm s.parts s.ps s.xs else .empty), .bool (svB s)]) ∧ Below w.heap.size w w' := i_StoreSavedG h hB (hl.up (by omega))
end Go.Proofs.Ytjfmjeffmnjilaa
