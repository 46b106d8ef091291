/-
  The law FnSavedLives returns true for all arguments, and writes nothing that was there.
-/
import Derived.Test.YtjfmjeffmnjilaaStH
import Derived.Test.YtjfmjeffmnjilaaB10L
import Derived.Deep.RegionHeld3
import Derived.Deep.RegionWith
namespace Go.Proofs.Ytjfmjeffmnjilaa
open Go.RowKit Fl Mem
set_option linter.unusedVariables false
set_option maxRecDepth 100000

theorem u8_wrap (z : Int) : ∃ nb : UInt8, IntKind.u8.wrap z = (nb.toNat : Int) := by
  have e : IntKind.u8.wrap z = z % 256 := by
    unfold IntKind.wrap
    first | rfl | (simp [IntKind.bits, IntKind.signed]; done)
  have h0 := Int.emod_nonneg z (show (256 : Int) ≠ 0 by decide)
  have h1 := Int.emod_lt_of_pos z (show (0 : Int) < 256 by decide)
  refine ⟨UInt8.ofNat (z % 256).toNat, ?_⟩
  have : (UInt8.ofNat (z % 256).toNat).toNat = (z % 256).toNat := by simp [UInt8.toNat_ofNat']; omega
  rw [this, e]; omega
theorem svR_lit {w : World} {s : Sv} {g B : Nat} (hb : Blk w g 38 #[.string s.nm, .int .i64 s.parts, .slice s.PA s.pn s.pc, .slice s.SA s.sn s.sc]) (hs : SvOk w B s) (hg : g < B) : SvR w B (some ⟨g, 0, none⟩) 1 [s] := by
  refine ⟨⟨rfl, fun _ => ⟨⟨g, 0, none⟩, rfl, hg, fun j u hu => ?_⟩⟩, fun x hx => by rw [List.mem_singleton] at hx; subst hx; exact hs⟩
  rw [Addr.add_lit, Nat.zero_add, hb.cell j]
  have e : (#[.string s.nm, .int .i64 s.parts, .slice s.PA s.pn s.pc, .slice s.SA s.sn s.sc] : Array Value)[j]? = (svC [s])[j]? := by simp [svC]
  rw [e]; exact hu
theorem same_pair {wa W : World} {q s : Sv} {B gq gs : Nat} (hq : SvOk wa B q) (hs : SvOk wa B s) (hbel : Below wa.heap.size wa W) (hB : B ≤ wa.heap.size)
    (Bq : Blk W gq 38 #[.string q.nm, .int .i64 q.parts, .slice q.PA q.pn q.pc, .slice q.SA q.sn q.sc]) (Bs : Blk W gs 38 #[.string s.nm, .int .i64 s.parts, .slice s.PA s.pn s.pc, .slice s.SA s.sn s.sc])
    (ht : svT q = svT s) (lq : SvLe 1048576 q) (ls : SvLe 1048576 s) :
    Calls Try.prog 14 #[.slice (some ⟨gq, 0, none⟩) 1 1, .slice (some ⟨gs, 0, none⟩) 1 1] W fun e w' => e = .returned (.bool true) ∧ Below wa.heap.size wa w' := by
  have hsz := hbel.size
  refine (i_SameSaved (B := W.heap.size) (svR_lit Bq ((hq.below (hbel.mono hB)).more (by omega)) Bq.lt) (svR_lit Bs ((hs.below (hbel.mono hB)).more (by omega)) Bs.lt) (Nat.le_refl _) (by omega) (by omega)
    (fun x hx => by rw [List.mem_singleton] at hx; subst hx; exact lq.up (by omega)) (fun x hx => by rw [List.mem_singleton] at hx; subst hx; exact ls.up (by omega))).mono ?_
  rintro e w' ⟨rfl, hb⟩
  refine ⟨?_, hbel.trans (hb.mono hsz)⟩
  have : sameSvs [q] [s] = sameSvs [s] [s] := sameSvs_told (by simp [ht]) rfl
  rw [this]
  unfold sameSvs
  simp
set_option maxHeartbeats 8000000 in
theorem law_SavedLives (A0 : Option Addr) (n0 c0 : Nat) (xs0 : List Int) (A1 : Option Addr) (n1 c1 : Nat) (xs1 : List Int) (w : World)
    (hA0 : Reads w w.heap.size 1 A0 n0 (xs0.map (Value.int .u8))) (hn0 : n0 ≤ c0) (hc0 : c0 ≤ maxLen) (hw0 : ∀ a ∈ xs0, (Lit.int .u8 a).wf = true)
    (hA1 : Reads w w.heap.size 1 A1 n1 (xs1.map (Value.int .u8))) (hn1 : n1 ≤ c1) (hc1 : c1 ≤ maxLen) (hw1 : ∀ a ∈ xs1, (Lit.int .u8 a).wf = true) :
    Calls Try.prog 8 #[.slice A0 n0 c0, .slice A1 n1 c1] w fun e w' => e = .returned (.bool true) ∧ Below w.heap.size w w' := by
  by_cases hL : 1048576 < n0 ∨ 1048576 < n1
  · go_enter Try.func8, Try.ntmps8
    go_wp2_with (go_at_call 27; refine (l_b10Long_yes hL).mono ?_; rintro e w' ⟨rfl, rfl⟩)
    go_ret
    exact ⟨rfl, Below.refl _ _⟩
  have hy0 : n0 ≤ 1048576 := by omega
  have hy1 : n1 ≤ 1048576 := by omega
  clear hL hn0 hn1 hc0 hc1
  go_enter Try.func8, Try.ntmps8
  go_wp2_with fail
  refine (l_b10Long_no hy0 hy1).mono ?_
  rintro e w' ⟨rfl, rfl⟩
  go_wp2_with fail
  refine (s_B10Saved hA0 hw0 hy0).mono ?_
  rintro e w1 ⟨v, rfl, ss, ho, hss, hall, hn4, hb1⟩
  obtain ⟨A, c, rfl⟩ := own_shape ho
  obtain ⟨n, hn⟩ : ∃ n, ss.length = n := ⟨_, rfl⟩
  have HW : Hid (WfA ss) := hide (fun s hs => (hss.each s hs).wf)
  have Hn := hide hn
  have H0 := svR_own ho hss
  rw [hn] at H0 hn4 ⊢
  have hz1 : w.heap.size ≤ w1.heap.size := hb1.size
  have HA1 := hide (hA1.below hb1)
  have HO0 := hide (own_litI (w := w1) (base := w1.heap.size) (e := 3) (u := .int .i64 0) (Nat.le_refl _))
  have H := hide H0
  have HALL := hide hall
  have bel0 : Below w1.heap.size w1 (w1.alloc (.cells #[.int .i64 0] 3)) := (Below.refl _ _).alloc (Nat.le_refl _) _
  have HB1 := hide hb1
  clear ho hss hall hn hA0 hA1 H0 hb1
  go_wp2
  go_loopw [6, 7, 8, 9, 10, 11, 36] (fun v6 _ _ _ _ _ v36 wr => ∃ k : Nat, k ≤ n ∧ v36 = .int .i64 (k : Int) ∧ Hid (wr.ownsRow w1.heap.size 3 1 v6 (k + 1) (il (endsL ss k))) ∧ Below w1.heap.size w1 wr) (fun _ _ _ _ _ _ v36 _ => n - (intOf v36).toNat)
  case atStart => exact ⟨0, Nat.zero_le _, rfl, HO0, bel0⟩
  case round =>
    clear HO0 bel0
    obtain ⟨k, hk, rfl, HO, bel⟩ := hrel
    have hzr : w1.heap.size ≤ wr.heap.size := bel.size
    by_cases hlt : k < n
    · -- [L1
      obtain ⟨ad, s, rfl, hab, hx, o1, d0, d1, d2, d3⟩ := (H.out.below bel).at hlt
      have Hx := hide hx
      have hv : svB s = true := List.all_eq_true.1 HALL.out s (List.mem_of_getElem? hx)
      have hS : SvLe 1048576 s := svLe_of o1 hv
      have hW1 := HW.out s (List.mem_of_getElem? hx)
      have kI0 : (0 : Int) ≤ k := by omega
      have kI : (k : Int) < n := by omega
      have hbl : (ad.add (k * 4)).block < wr.heap.size := by rw [block_of_add]; omega
      have O1 := hide o1
      have S1 := hide hS
      have hsz := stB_size hv
      obtain ⟨T, hT⟩ : ∃ T, stored s.nm s.parts s.ps s.xs = T := ⟨_, rfl⟩
      have HT : Hid (stB s = T) := hide hT
      have hsz1 : T.size ≤ 530 := by rw [← hT]; exact hsz
      have hld := ld_one hv hW1
      rw [HT.out] at hld
      have HLd := hide hld
      have HE : Hid (endN ss (k + 1) = endN ss k + T.size) := hide (by rw [endN_succ Hx.out, HT.out])
      have Hle : Hid (endN ss k ≤ 530 * k) := hide (endN_le HALL.out k)
      have HV := hide hv
      clear hsz hld hS o1 hW1 hx hv
      go_wp2_with fail
      refine (i_StoreSaved (B := w1.heap.size) (s := s) O1.out hzr S1.out).mono ?_
      rintro e w2 ⟨rfl, hb2⟩
      rw [HV.out, if_pos rfl, hT]
      have e0 : w2.cell? (ad.add (k * 4)) = some (.string s.nm) := (hb2.cell hbl).trans d0
      have e1 : w2.cell? ⟨(ad.add (k * 4)).block, (ad.add (k * 4)).off + 1, none⟩ = some (.int .i64 s.parts) := (hb2.cell (by exact hbl)).trans d1
      have e2 : w2.cell? ⟨(ad.add (k * 4)).block, (ad.add (k * 4)).off + 2, none⟩ = some (.slice s.PA s.pn s.pc) := (hb2.cell (by exact hbl)).trans d2
      have e3 : w2.cell? ⟨(ad.add (k * 4)).block, (ad.add (k * 4)).off + 3, none⟩ = some (.slice s.SA s.sn s.sc) := (hb2.cell (by exact hbl)).trans d3
      have O2 := hide (O1.out.below (hb2.mono hzr))
      have R2 := hide (own_below HO.out hb2)
      have bel2 := bel.trans (hb2.mono hzr)
      have hz2 : wr.heap.size ≤ w2.heap.size := hb2.size
      clear hb2 d0 d1 d2 d3 bel HO hT O1
      go_wp2_with fail
      refine (i_LoadSaved_told (s := T) (by omega)).mono ?_
      rintro e w3 ⟨q, rfl, hb3, ht3, ho3, hl3⟩
      rw [HLd.out.1]
      rw [HLd.out.2] at ht3
      have hbl2 : (ad.add (k * 4)).block < w2.heap.size := by omega
      have f0 : w3.cell? (ad.add (k * 4)) = some (.string s.nm) := (hb3.cell hbl2).trans e0
      have f1 : w3.cell? ⟨(ad.add (k * 4)).block, (ad.add (k * 4)).off + 1, none⟩ = some (.int .i64 s.parts) := (hb3.cell (by exact hbl2)).trans e1
      have f2 : w3.cell? ⟨(ad.add (k * 4)).block, (ad.add (k * 4)).off + 2, none⟩ = some (.slice s.PA s.pn s.pc) := (hb3.cell (by exact hbl2)).trans e2
      have f3 : w3.cell? ⟨(ad.add (k * 4)).block, (ad.add (k * 4)).off + 3, none⟩ = some (.slice s.SA s.sn s.sc) := (hb3.cell (by exact hbl2)).trans e3
      obtain ⟨bx, hbx⟩ : ∃ bx, w3.heap.size = bx := ⟨_, rfl⟩
      have hblx : (ad.add (k * 4)).block < bx := by have := hb3.size; omega
      have R3 := hide (World.ownsRow.alloc (own_below R2.out hb3) (.cells #[.string q.nm, .int .i64 q.parts, .slice q.PA q.pn q.pc, .slice q.SA q.sn q.sc] 38))
      have hz3 : w1.heap.size ≤ w3.heap.size := by have := hb3.size; omega
      have bel3 := (bel2.trans (hb3.mono bel2.size)).alloc hz3 (.cells #[.string q.nm, .int .i64 q.parts, .slice q.PA q.pn q.pc, .slice q.SA q.sn q.sc] 38)
      have Q3 := hide (ho3.ok.alloc (Nat.le_refl _) (.cells #[.string q.nm, .int .i64 q.parts, .slice q.PA q.pn q.pc, .slice q.SA q.sn q.sc] 38))
      have O3 := hide ((O2.out.below (hb3.mono bel2.size)).alloc hz3 (.cells #[.string q.nm, .int .i64 q.parts, .slice q.PA q.pn q.pc, .slice q.SA q.sn q.sc] 38))
      have L3 := hide hl3
      have T3 := hide ht3
      have X3 := hide (blk_new' w3 bx 38 #[.string q.nm, .int .i64 q.parts, .slice q.PA q.pn q.pc, .slice q.SA q.sn q.sc] hbx.symm)
      rw [hbx] at Q3
      have zx : bx < (w3.alloc (.cells #[.string q.nm, .int .i64 q.parts, .slice q.PA q.pn q.pc, .slice q.SA q.sn q.sc] 38)).heap.size := by simp; omega
      clear hb3 ht3 ho3 hl3 bel2 R2 e0 e1 e2 e3 O2
      have Bal : Below w3.heap.size w3 (w3.alloc (.cells #[.string q.nm, .int .i64 q.parts, .slice q.PA q.pn q.pc, .slice q.SA q.sn q.sc] 38)) := (Below.refl _ _).alloc (Nat.le_refl _) _
      have hblx3 : (ad.add (k * 4)).block < w3.heap.size := by omega
      have g0 : (w3.alloc (.cells #[.string q.nm, .int .i64 q.parts, .slice q.PA q.pn q.pc, .slice q.SA q.sn q.sc] 38)).cell? (ad.add (k * 4)) = some (.string s.nm) := (Bal.cell hblx3).trans f0
      have g1 : (w3.alloc (.cells #[.string q.nm, .int .i64 q.parts, .slice q.PA q.pn q.pc, .slice q.SA q.sn q.sc] 38)).cell? ⟨(ad.add (k * 4)).block, (ad.add (k * 4)).off + 1, none⟩ = some (.int .i64 s.parts) := (Bal.cell (by exact hblx3)).trans f1
      have g2 : (w3.alloc (.cells #[.string q.nm, .int .i64 q.parts, .slice q.PA q.pn q.pc, .slice q.SA q.sn q.sc] 38)).cell? ⟨(ad.add (k * 4)).block, (ad.add (k * 4)).off + 2, none⟩ = some (.slice s.PA s.pn s.pc) := (Bal.cell (by exact hblx3)).trans f2
      have g3 : (w3.alloc (.cells #[.string q.nm, .int .i64 q.parts, .slice q.PA q.pn q.pc, .slice q.SA q.sn q.sc] 38)).cell? ⟨(ad.add (k * 4)).block, (ad.add (k * 4)).off + 3, none⟩ = some (.slice s.SA s.sn s.sc) := (Bal.cell (by exact hblx3)).trans f3
      have y0 : (w3.alloc (.cells #[.string q.nm, .int .i64 q.parts, .slice q.PA q.pn q.pc, .slice q.SA q.sn q.sc] 38)).cell? ⟨bx, 0, none⟩ = some (.string q.nm) := X3.out.cell 0
      have y1 : (w3.alloc (.cells #[.string q.nm, .int .i64 q.parts, .slice q.PA q.pn q.pc, .slice q.SA q.sn q.sc] 38)).cell? ⟨bx, 1, none⟩ = some (.int .i64 q.parts) := X3.out.cell 1
      have y2 : (w3.alloc (.cells #[.string q.nm, .int .i64 q.parts, .slice q.PA q.pn q.pc, .slice q.SA q.sn q.sc] 38)).cell? ⟨bx, 2, none⟩ = some (.slice q.PA q.pn q.pc) := X3.out.cell 2
      have y3 : (w3.alloc (.cells #[.string q.nm, .int .i64 q.parts, .slice q.PA q.pn q.pc, .slice q.SA q.sn q.sc] 38)).cell? ⟨bx, 3, none⟩ = some (.slice q.SA q.sn q.sc) := X3.out.cell 3
      have hW4 : Hid ((w3.alloc (.cells #[.string q.nm, .int .i64 q.parts, .slice q.PA q.pn q.pc, .slice q.SA q.sn q.sc] 38)).heap.size = bx + 1) := hide (by simp; omega)
      clear f0 f1 f2 f3 Bal X3
      obtain ⟨w4, hw4⟩ : ∃ w4, w3.alloc (.cells #[.string q.nm, .int .i64 q.parts, .slice q.PA q.pn q.pc, .slice q.SA q.sn q.sc] 38) = w4 := ⟨_, rfl⟩
      obtain ⟨bx1, hbx1⟩ : ∃ bx1, bx + 1 = bx1 := ⟨_, rfl⟩
      rw [hw4] at g0 g1 g2 g3 y0 y1 y2 y3 hW4 R3 bel3 Q3 O3 zx
      replace hW4 := hW4.out
      rw [hbx1] at hW4
      have O3D : SvOk w4.drew w1.heap.size s := ⟨O3.out.paths.drew, O3.out.sig.drew, O3.out.wf, O3.out.wfi, O3.out.wfp⟩
      have le3 : w1.heap.size ≤ w4.drew.heap.size := bel3.size
      have hbl4 : (ad.add (k * 4)).block < bx1 := by omega
      have hbx4 : bx < bx1 := by omega
      have zb : bx ≤ bx1 := by omega
      have zc : w1.heap.size ≤ bx1 := by omega
      have zd : w1.heap.size ≤ bx := by omega
      go_wp2
      try rw [hw4]
      go_region_held3 (fun w' => w'.cell? (ad.add (k * 4)) = some (.string s.nm) ∧ w'.cell? ⟨(ad.add (k * 4)).block, (ad.add (k * 4)).off + 1, none⟩ = some (.int .i64 s.parts) ∧ w'.cell? ⟨(ad.add (k * 4)).block, (ad.add (k * 4)).off + 2, none⟩ = some (.slice s.PA s.pn s.pc) ∧ w'.cell? ⟨(ad.add (k * 4)).block, (ad.add (k * 4)).off + 3, none⟩ = some (.slice s.SA s.sn s.sc) ∧ w'.cell? ⟨bx, 0, none⟩ = some (.string q.nm) ∧ w'.cell? ⟨bx, 1, none⟩ = some (.int .i64 q.parts) ∧ w'.cell? ⟨bx, 2, none⟩ = some (.slice q.PA q.pn q.pc) ∧ w'.cell? ⟨bx, 3, none⟩ = some (.slice q.SA q.sn q.sc)) (first | assumption | go_keep)
        (first
          | (go_at_call 19; refine (i_ValidSaved (B := w1.heap.size) (s := s) O3D le3 S1.out).mono ?_; rintro e wa ⟨rfl, hba⟩; rw [HV.out]; have Ba : Below bx1 w4 wa := (sv_undrew hba).mono (Nat.le_of_eq hW4.symm); have Ka : wa.cell? (ad.add (k * 4)) = some (.string s.nm) ∧ wa.cell? ⟨(ad.add (k * 4)).block, (ad.add (k * 4)).off + 1, none⟩ = some (.int .i64 s.parts) ∧ wa.cell? ⟨(ad.add (k * 4)).block, (ad.add (k * 4)).off + 2, none⟩ = some (.slice s.PA s.pn s.pc) ∧ wa.cell? ⟨(ad.add (k * 4)).block, (ad.add (k * 4)).off + 3, none⟩ = some (.slice s.SA s.sn s.sc) ∧ wa.cell? ⟨bx, 0, none⟩ = some (.string q.nm) ∧ wa.cell? ⟨bx, 1, none⟩ = some (.int .i64 q.parts) ∧ wa.cell? ⟨bx, 2, none⟩ = some (.slice q.PA q.pn q.pc) ∧ wa.cell? ⟨bx, 3, none⟩ = some (.slice q.SA q.sn q.sc) := ⟨(Ba.cell hbl4).trans g0, (Ba.cell (by exact hbl4)).trans g1, (Ba.cell (by exact hbl4)).trans g2, (Ba.cell (by exact hbl4)).trans g3, (Ba.cell hbx4).trans y0, (Ba.cell hbx4).trans y1, (Ba.cell hbx4).trans y2, (Ba.cell hbx4).trans y3⟩; have zz : bx1 ≤ wa.heap.size := Nat.le_trans (Nat.le_of_eq hW4.symm) Ba.size; have lA := Nat.lt_of_lt_of_le hbl4 zz; have lB := Nat.lt_of_lt_of_le hbx4 zz; have OKq := Q3.out.below (Ba.mono zb); have OKs := (O3.out.below (Ba.mono zc)).more zd; have nA : (ad.add (k * 4)).block ≠ wa.heap.size := (by omega); have nB : (ad.add (k * 4)).block ≠ wa.heap.size + 1 := (by omega); have nC : bx ≠ wa.heap.size := (by omega); have nD : bx ≠ wa.heap.size + 1 := (by omega))
          | (go_at_call 14; refine (same_pair (wa := wa) (B := bx) OKq OKs (((Below.refl _ _).alloc (Nat.le_refl _) _).alloc (Nat.le_trans (Nat.le_succ _) (Nat.le_of_eq (World.size_alloc wa _).symm)) _) (Nat.le_trans zb zz) ((Blk.new wa _ _).alloc _) (blk_new' _ _ _ _ (World.size_alloc _ _).symm) T3.out L3.out S1.out).mono ?_; rintro e wb ⟨rfl, hbb⟩; have Kb : wb.cell? (ad.add (k * 4)) = some (.string s.nm) ∧ wb.cell? ⟨(ad.add (k * 4)).block, (ad.add (k * 4)).off + 1, none⟩ = some (.int .i64 s.parts) ∧ wb.cell? ⟨(ad.add (k * 4)).block, (ad.add (k * 4)).off + 2, none⟩ = some (.slice s.PA s.pn s.pc) ∧ wb.cell? ⟨(ad.add (k * 4)).block, (ad.add (k * 4)).off + 3, none⟩ = some (.slice s.SA s.sn s.sc) ∧ wb.cell? ⟨bx, 0, none⟩ = some (.string q.nm) ∧ wb.cell? ⟨bx, 1, none⟩ = some (.int .i64 q.parts) ∧ wb.cell? ⟨bx, 2, none⟩ = some (.slice q.PA q.pn q.pc) ∧ wb.cell? ⟨bx, 3, none⟩ = some (.slice q.SA q.sn q.sc) := ⟨(hbb.cell lA).trans Ka.1, (hbb.cell (by exact lA)).trans Ka.2.1, (hbb.cell (by exact lA)).trans Ka.2.2.1, (hbb.cell (by exact lA)).trans Ka.2.2.2.1, (hbb.cell lB).trans Ka.2.2.2.2.1, (hbb.cell lB).trans Ka.2.2.2.2.2.1, (hbb.cell lB).trans Ka.2.2.2.2.2.2.1, (hbb.cell lB).trans Ka.2.2.2.2.2.2.2⟩)
          | (go_at_call 14; refine (same_pair (wa := wa) (B := bx) OKq OKs (((Below.refl _ _).alloc (Nat.le_refl _) _).alloc (Nat.le_trans (Nat.le_succ _) (Nat.le_of_eq (World.size_alloc wa _).symm)) _) (Nat.le_trans zb zz) (blk_new' _ _ _ _ (World.size_alloc _ _).symm) ((Blk.new wa _ _).alloc _) T3.out L3.out S1.out).mono ?_; rintro e wb ⟨rfl, hbb⟩; have Kb : wb.cell? (ad.add (k * 4)) = some (.string s.nm) ∧ wb.cell? ⟨(ad.add (k * 4)).block, (ad.add (k * 4)).off + 1, none⟩ = some (.int .i64 s.parts) ∧ wb.cell? ⟨(ad.add (k * 4)).block, (ad.add (k * 4)).off + 2, none⟩ = some (.slice s.PA s.pn s.pc) ∧ wb.cell? ⟨(ad.add (k * 4)).block, (ad.add (k * 4)).off + 3, none⟩ = some (.slice s.SA s.sn s.sc) ∧ wb.cell? ⟨bx, 0, none⟩ = some (.string q.nm) ∧ wb.cell? ⟨bx, 1, none⟩ = some (.int .i64 q.parts) ∧ wb.cell? ⟨bx, 2, none⟩ = some (.slice q.PA q.pn q.pc) ∧ wb.cell? ⟨bx, 3, none⟩ = some (.slice q.SA q.sn q.sc) := ⟨(hbb.cell lA).trans Ka.1, (hbb.cell (by exact lA)).trans Ka.2.1, (hbb.cell (by exact lA)).trans Ka.2.2.1, (hbb.cell (by exact lA)).trans Ka.2.2.2.1, (hbb.cell lB).trans Ka.2.2.2.2.1, (hbb.cell lB).trans Ka.2.2.2.2.2.1, (hbb.cell lB).trans Ka.2.2.2.2.2.2.1, (hbb.cell lB).trans Ka.2.2.2.2.2.2.2⟩))
      all_goals (
        have Bb : Below bx1 w4 wb := Ba.trans (hbb.mono zz)
        have R5 := hide (own_below R3.out (Bb.mono (Nat.le_of_eq hW4)))
        have bel5 := bel3.trans (Bb.mono zc)
        obtain ⟨g7, c7, rfl⟩ := own_addr R5.out (by omega)
        have e7 : wb.cell? ⟨g7, k, none⟩ = some (.int .i64 ((endN ss k : Nat) : Int)) := own_cellI R5.out (il_ends (Nat.le_refl _))
        obtain ⟨E, hE⟩ : ∃ E, endN ss k = E := ⟨_, rfl⟩
        rw [hE] at e7
        have hE2 : Hid (((endN ss (k + 1) : Nat) : Int) = (E : Int) + (T.size : Int)) := hide (by rw [HE.out, hE]; push_cast; rfl)
        have hEb : E ≤ 530 * 4 := by have := Hle.out; omega
        have hzb : w1.heap.size ≤ wb.heap.size := bel5.size
        clear hE Ka Kb Bb Ba hba hbb g0 g1 g2 g3 y0 y1 y2 y3 R3 bel3 OKq OKs hw4 O3D
        go_wp2_with (at_builtin; refine wpList_append1 rfl (.tmp 77) (.tmp 87) 46 rfl w1.heap.size 3 (.int .i64 0) _ 8 info_int Try.underlying46 rfl rfl _ _ _ rfl R5.out rfl rfl (by omega) (by omega) hzb ?_)
        intro v9 w9 ho9 hb9
        have HO9 : Hid (w9.ownsRow w1.heap.size 3 1 v9 (k + 1 + 1) (il (endsL ss (k + 1)))) := hide (by
          rw [endsL_succ, hE2.out, show il (endsL ss k ++ [(E : Int) + (T.size : Int)]) = il (endsL ss k) ++ [.int .i64 ((E : Int) + (T.size : Int))] by simp [il]]
          exact ho9)
        have bel9 := bel5.trans (hb9.mono (Nat.le_refl _))
        clear ho9 hb9 R5 bel5 e7 hzb
        go_wp2
        go_roundw
        case rel => exact ⟨k + 1, by omega, by go_num, HO9, bel9⟩
        case measure => (simp [intOf]; omega))
      -- L1]
    · obtain rfl : k = n := by omega
      have kI : ¬ (k : Int) < (k : Int) := by omega
      -- [REST
      have HLs : Hid (∀ s ∈ ss, SvLe 1048576 s) := hide (fun s hs => svLe_of (H.out.each s hs) (List.all_eq_true.1 HALL.out s hs))
      have hok : allOk ss k = true := by unfold allOk; rw [HALL.out, decide_eq_true (by omega : k ≤ 8)]; rfl
      obtain ⟨T, hT⟩ : ∃ T, allT ss k = T := ⟨_, rfl⟩
      have h8 : k ≤ 8 := by omega
      go_wp2_with fail
      refine (i_StoreAll (H.out.below bel) hzr (by omega) HLs.out).mono ?_
      rintro e w2 ⟨rfl, hb2⟩
      rw [hok, hT]
      have R2 := hide (own_below HO.out hb2)
      have bel2 := bel.trans (hb2.mono hzr)
      clear hb2 bel HO
      have hTc : T = catS ss := by rw [← hT]; unfold allT; rw [if_pos hok]
      have HTc := hide hTc
      have hTs : T.size ≤ 530 * 8 := by rw [hTc]; have := catS_size HALL.out; rw [Hn.out] at this; omega
      have hra := rec_all HALL.out HW.out (by rw [Hn.out]; exact h8)
      rw [← hTc] at hra
      have HRa := hide hra
      obtain ⟨M, hM⟩ : ∃ M, T.size = M := ⟨_, rfl⟩
      have hMI : (T.size : Int) = (M : Int) := by rw [hM]
      have HM := hide hM
      have HEk : Hid (endN ss k = M) := hide (by rw [← Hn.out, endN_all, ← hTc, hM])
      have hM8 : M ≤ 530 * 8 := by omega
      clear hTc hra hok hT hM
      go_wp2_with fail
      refine (i_RecoverAll (s := T) (by omega)).mono ?_
      rintro e w3 ⟨v3, r3, rfl, hb3, ht3, ho3, hs3, hl3⟩
      rw [HRa.out] at ht3 ⊢
      dsimp only at ht3 ⊢
      rw [HM.out]
      have n3 : r3.length = k := by have := congrArg List.length ht3; simpa [Hn.out] using this
      rw [n3] at ho3
      obtain ⟨A3, c3, rfl⟩ := own_shape ho3
      have V3 := hide (svR_own ho3 hs3)
      have L3 := hide (fun x hx => (hl3 x hx).up (show 1048576 ≤ 1099511627776 by omega))
      have T3 := hide ht3
      have R3 := hide (own_below R2.out hb3)
      have bel3 := bel2.trans (hb3.mono bel2.size)
      have HS : Hid (sameSvs r3 ss = true) := hide (by rw [sameSvs_told T3.out (rfl : ss.map svT = ss.map svT)]; unfold sameSvs; simp)
      have HLk : Hid (∀ s ∈ ss, SvLe 1099511627776 s) := hide (fun x hx => (HLs.out x hx).up (by omega))
      have H3 := hide ((H.out.below bel3).more bel3.size)
      clear hb3 ho3 hs3 hl3 ht3 n3 bel2 R2
      obtain ⟨g7, c7, rfl⟩ := own_addr R3.out (by omega)
      have e7 : w3.cell? ⟨g7, k, none⟩ = some (.int .i64 (M : Int)) := by
        have := own_cellI R3.out (il_ends (ss := ss) (Nat.le_refl k))
        rwa [HEk.out] at this
      have hne2 : ((M : Int) != (M : Int)) = false := by simp
      go_wp2_with fail
      refine (i_SameSaved V3.out H3.out (Nat.le_refl _) (by omega) (by omega) L3.out HLk.out).mono ?_
      rintro e w4 ⟨rfl, hb4⟩
      rw [HS.out]
      have R4 := hide (own_below R3.out hb4)
      have bel4 := bel3.trans (hb4.mono bel3.size)
      have HAe := hide (HA1.out.below (bel4.mono hz1))
      have hzz : w1.heap.size ≤ w4.heap.size := bel4.size
      have BEL := hide (HB1.out.trans (bel4.mono hz1))
      clear hb4 R3 bel3 V3 L3 T3 e7 H3 HS HLk bel4
      by_cases hM0 : M = 0
      · have hMq : ((M : Int) == 0) = true := by rw [hM0]; rfl
        clear HLs HALL HW H HB1 HA1
        go_wp2
        go_ret
        exact ⟨rfl, BEL.out⟩
      · have hMq : ((M : Int) == 0) = false := by rw [beq_eq_false_iff_ne]; omega
        have hMp : 0 < (M : Int) := by omega
        go_wp2_with fail
        refine (l_b10At HAe.out hw1 hy1 (by omega) (by omega) (by omega) (by omega)).mono ?_
        rintro e w' ⟨v0, rfl, p0, p1, rfl⟩
        go_wp2_with fail
        refine (l_b10At HAe.out hw1 hy1 (by omega) (by omega) (by omega) (by omega)).mono ?_
        rintro e w' ⟨v1, rfl, p2, p3, rfl⟩
        obtain ⟨cn, hcut⟩ : ∃ cn : Nat, (256 * v0 + v1) % (M : Int) = (cn : Int) := ⟨((256 * v0 + v1) % (M : Int)).toNat, (Int.toNat_of_nonneg (Int.emod_nonneg _ (by omega))).symm⟩
        have hcn : cn < M := by have := Int.emod_lt_of_pos (256 * v0 + v1) hMp; omega
        have H0k : Hid (0 < k) := hide (by
          rcases Nat.eq_zero_or_pos k with h0 | h0
          · exfalso; have := HEk.out; rw [h0, endN_zero] at this; omega
          · exact h0)
        go_wp2
        rw [hcut]
        clear hcut p0 p1 p2 p3
        go_loopw [18] (fun v18 wr => ∃ j : Nat, v18 = .int .i64 (j : Int) ∧ j < k ∧ Hid (endN ss j ≤ cn) ∧ wr = w4) (fun v18 _ => k - (intOf v18).toNat)
        case atStart => exact ⟨0, rfl, H0k.out, hide (Nat.zero_le _), rfl⟩
        case round =>
          obtain ⟨j, rfl, hjk, hj, rfl⟩ := hrel
          obtain ⟨E1, hE1⟩ : ∃ E1, endN ss (j + 1) = E1 := ⟨_, rfl⟩
          have e8 : wr.cell? ⟨g7, j + 1, none⟩ = some (.int .i64 (E1 : Int)) := by
            have := own_cellI R4.out (il_ends (ss := ss) (show j + 1 ≤ k by omega))
            rwa [hE1] at this
          have HE1 := hide hE1
          have jk : (j : Int) < (k : Int) := by omega
          have jk1 : (j : Int) + 1 < (k : Int) + 1 := by omega
          have j0 : (0 : Int) ≤ (j : Int) + 1 := by omega
          clear hE1
          by_cases hle : E1 ≤ cn
          · have hleI : (E1 : Int) ≤ (cn : Int) := by omega
            have hj1 : j + 1 < k := by
              rcases Nat.lt_or_ge (j + 1) k with h | h
              · exact h
              · exfalso
                have : j + 1 = k := by omega
                have h1 := HE1.out
                rw [this, HEk.out] at h1
                omega
            have HJ : Hid (endN ss (j + 1) ≤ cn) := hide (by rw [HE1.out]; exact hle)
            go_wp2
            go_roundw
            case rel => exact ⟨j + 1, by go_num, hj1, HJ, by first | rfl | trivial⟩
            case measure => (simp [intOf]; omega)
          · have hleI : ¬ (E1 : Int) ≤ (cn : Int) := by omega
            -- [CUT
            have hE1c : cn < E1 := by omega
            have hrc := rec_cut HALL.out HW.out (by rw [Hn.out]; exact h8) (k := j) (c := cn) (by rw [Hn.out]; exact hjk) hj.out (by rw [HE1.out]; exact hE1c)
            rw [← HTc.out, ← take_list] at hrc
            obtain ⟨E0, hE0⟩ : ∃ E0, endN ss j = E0 := ⟨_, rfl⟩
            rw [hE0] at hrc
            have e9 : wr.cell? ⟨g7, j, none⟩ = some (.int .i64 (E0 : Int)) := by
              have := own_cellI R4.out (il_ends (ss := ss) (show j ≤ k by omega))
              rwa [hE0] at this
            have hEc : E0 ≤ cn := by rw [← hE0]; exact hj.out
            have HRc := hide hrc
            have HE0 := hide hE0
            have hUs : (T.extract 0 cn).size ≤ 1048576 := by rw [ByteArray.size_extract]; omega
            have c0 : (0 : Int) ≤ (cn : Int) := by omega
            have c1 : (cn : Int) ≤ (M : Int) := by omega
            have g7lt : g7 < wr.heap.size := (R4.out.lt g7 rfl).2
            clear hrc hE0 hle HE1
            go_wp2_with fail
            refine (i_RecoverAll (s := T.extract 0 cn) hUs).mono ?_
            rintro e w5 ⟨v5, r5, rfl, hb5, ht5, ho5, hs5, hl5⟩
            rw [HRc.out] at ht5 ⊢
            dsimp only at ht5 ⊢
            have n5 : r5.length = j := by have := congrArg List.length ht5; rw [List.length_map, List.length_map, List.length_take, Hn.out] at this; omega
            rw [n5] at ho5
            obtain ⟨A5, c5, rfl⟩ := own_shape ho5
            have bel5 := BEL.out.trans (hb5.mono (Nat.le_trans hz1 hzz))
            have HA5 := hide (HAe.out.below (hb5.mono (Nat.le_trans hz1 hzz)))
            have e10 : w5.cell? ⟨g7, j, none⟩ = some (.int .i64 (E0 : Int)) := (hb5.cell (by exact g7lt)).trans e9
            have z5 : wr.heap.size ≤ w5.heap.size := hb5.size
            have hne4 : ((E0 : Int) != (E0 : Int)) = false := by simp
            have hne5 : ((j : Int) != (j : Int)) = false := by simp
            clear hb5 ho5 hs5 hl5 ht5 n5 e9 e8 hleI HAe
            obtain ⟨cap, w7, hcv, hb7, hz7, hcap, hcl, hfr⟩ := bytes_laid w5 T
            have hTM : T.size = M := HM.out
            have bel7 := bel5.trans (hb7.mono bel5.size)
            obtain ⟨cb, hcb⟩ : ∃ cb, T[cn]'(by omega) = cb := ⟨_, rfl⟩
            have f7 : w7.cell? ⟨w5.heap.size, cn, none⟩ = some (.int .u8 (cb.toNat : Int)) := by rw [← hcb]; exact hcl cn (by omega)
            have f8 : w7.frozen? ⟨w5.heap.size, cn, none⟩ = false := hfr cn (by omega)
            have c2 : (cn : Int) < (M : Int) := by omega
            rw [hTM] at hcap
            have hz57 : w5.heap.size < w7.heap.size := by omega
            have hz7w : w.heap.size ≤ w5.heap.size := bel5.size
            have HA7 := HA5.out.below (hb7.mono hz7w)
            go_wp2
            go_region_with (go_at_call 29; refine (l_b10At (by first | exact HA7 | exact HA7.drew) hw1 hy1 (by omega) (by omega) (by omega) (by omega)).mono ?_; rintro e w' ⟨v2, rfl, q0, q1, hww⟩; subst hww)
            all_goals (
              obtain ⟨nb, hnb⟩ := u8_wrap ((cb.toNat : Int) + IntKind.u8.wrap (IntKind.i64.wrap (1 + v2)))
              rw [hnb]
              obtain ⟨wd, hwd⟩ : ∃ wd, (w7.setCell ⟨w5.heap.size, cn, none⟩ (.int .u8 (nb.toNat : Int))).drew = wd := ⟨_, rfl⟩
              have C8 : Hid (∀ i (hi : i < T.size), i ≠ cn → wd.cell? ⟨w5.heap.size, i, none⟩ = some (.int .u8 ((T[i]'hi).toNat : Int))) := hide (fun i hi hne => by
                rw [← hwd]
                show (w7.setCell ⟨w5.heap.size, cn, none⟩ (.int .u8 (nb.toNat : Int))).cell? _ = _
                rw [World.cell?_setCell_other _ _ _ _ (by intro e; injection e; omega)]
                exact hcl i hi)
              have N8 : wd.cell? ⟨w5.heap.size, cn, none⟩ = some (.int .u8 (nb.toNat : Int)) := by
                rw [← hwd]
                exact World.cell?_setCell_same _ _ _ f7
              have bel8 : Below w.heap.size w wd := by
                rw [← hwd]
                exact (bel7.setCell (p := ⟨w5.heap.size, cn, none⟩) hz7w (.int .u8 (nb.toNat : Int))).drew
              have hz8 : w5.heap.size < wd.heap.size := by rw [← hwd]; simpa [World.setCell] using hz57
              rw [hwd]
              have hcv2 := bent_conv (cap := cap) (Nat.le_refl T.size) C8.out (fun _ => N8)
              have N8' := hide N8
              rw [List.take_of_length_le (by rw [List.length_set, Array.length_toList]; exact Nat.le_refl _)] at hcv2
              obtain ⟨Bl, hBl⟩ : ∃ Bl : ByteArray, (⟨(T.data.toList.set cn nb).toArray⟩ : ByteArray) = Bl := ⟨_, rfl⟩
              have HBl : Hid (Bl.data.toList = T.data.toList.set cn nb) := hide (by rw [← hBl])
              rw [hBl, hTM] at hcv2
              have hBs : Bl.size = M := by
                have : Bl.data.toList.length = T.data.toList.length := by rw [HBl.out, List.length_set]
                rw [Array.length_toList, Array.length_toList] at this
                exact this.trans hTM
              have HBs := hide hBs
              have hBs2 : Bl.size ≤ 1048576 := by omega
              have hbent : j ≤ (recN 8 Bl.data.toList).1.length := rec_bent HALL.out HW.out (by rw [Hn.out]; exact h8) (k := j) (c := cn) (by rw [Hn.out]; exact hjk) (by rw [HE0.out]; exact hEc) (by
                rw [HBl.out, ← HTc.out, List.take_set_of_le (Nat.le_refl _)])
              have Hbent := hide hbent
              clear hcl hfr hTM hb7 bel5 bel7 hcb hBl N8 hbent hBs hwd hnb HA7 HA5 q0 q1 f7 f8 hcv e10
              go_wp2_with fail
              refine (i_RecoverAll (s := Bl) hBs2).mono ?_
              rintro e w9 ⟨v9, r9, rfl, hb9, ht9, ho9, hs9, hl9⟩
              obtain ⟨st1, st2, st3, st4⟩ := rec_store ht9
              obtain ⟨n9, hn9⟩ : ∃ n9, r9.length = n9 := ⟨_, rfl⟩
              have hjn : j ≤ n9 := by have := Hbent.out; rw [← ht9, List.length_map, hn9] at this; exact this
              obtain ⟨o, ho⟩ : ∃ o, (recN 8 Bl.data.toList).2 = o := ⟨_, rfl⟩
              rw [ho] at st2 st3 ⊢
              rw [hn9] at ho9 st1 st2 st4
              rw [HBs.out] at st3
              obtain ⟨A9, c9, rfl⟩ := own_shape ho9
              have V9 := hide (svR_own ho9 hs9)
              have L9 := hide hl9
              have S1 := hide st1
              have S2 := hide st2
              have bel9 := bel8.trans (hb9.mono bel8.size)
              have C9 : Hid (∀ i (hi : i < T.size), i ≠ cn → w9.cell? ⟨w5.heap.size, i, none⟩ = some (.int .u8 ((T[i]'hi).toNat : Int))) := hide (fun i hi hne => (hb9.cell (by exact hz8)).trans (C8.out i hi hne))
              have N9 := hide ((hb9.cell (by exact hz8)).trans N8'.out)
              have z9 : wd.heap.size ≤ w9.heap.size := hb9.size
              have hz9 : w5.heap.size < w9.heap.size := by omega
              clear hb9 ho9 hs9 hl9 ht9 hn9 ho st1 st2 C8 N8' bel8 hcv2
              go_wp2_with fail
              refine (i_StoreAll V9.out (Nat.le_refl _) (by omega) L9.out).mono ?_
              rintro e w10 ⟨rfl, hb10⟩
              rw [S1.out, S2.out]
              have bel10 := bel9.trans (hb10.mono bel9.size)
              have hcv3 := bent_conv (w := w10) (g := w5.heap.size) (cap := cap) (cn := cn) (o := o) (T := T) (nb := nb) (by rw [HM.out]; exact st3) (fun i hi hne => (hb10.cell (by exact hz9)).trans (C9.out i hi hne)) (fun _ => (hb10.cell (by exact hz9)).trans N9.out)
              obtain ⟨Fo, hFo⟩ : ∃ Fo, Bl.extract 0 o = Fo := ⟨_, rfl⟩
              rw [show (⟨((T.data.toList.set cn nb).take o).toArray⟩ : ByteArray) = Bl.extract 0 o from ba_ext' (by rw [take_list, HBl.out]), hFo] at hcv3
              rw [hFo]
              have heq : (Fo.toList == Fo.toList) = true := by simp
              have q0 : (0 : Int) ≤ (o : Int) := by omega
              have q1 : (o : Int) ≤ (M : Int) := by omega
              have q2 : (j : Int) ≤ (n9 : Int) := by omega
              have q3 : (o : Int) ≤ (cap : Int) := by omega
              clear hb10 bel9 C9 N9 V9 L9 S1 S2 hFo
              go_wp2
              go_ret
              exact ⟨rfl, bel10⟩)
            -- CUT]
      -- REST]
end Go.Proofs.Ytjfmjeffmnjilaa
