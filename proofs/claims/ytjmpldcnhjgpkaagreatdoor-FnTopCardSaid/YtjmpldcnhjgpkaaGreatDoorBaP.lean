/-
  Small functions of chains: walks.
-/
import Derived.Test.YtjmpldcnhjgpkaaGreatDoorBaF
import Derived.BigQuiet
import Derived.Deep.QuietTactic
import Derived.Maps.AppendAt
import Derived.BigRegion
import Derived.Deep.CutRange
import Derived.Laws.CopyOwn
namespace Go.Proofs.YtjmpldcnhjgpkaaGreatDoor
open Go.RowKit Mem Fl
set_option linter.unusedVariables false
set_option maxRecDepth 100000

theorem c_absolute {x : Nat} {w : World} (hx : fin .f32 x = true) : Calls Tryz.prog 50 #[.float .f32 x] w fun e w' => e = .returned (.float .f32 (absW x)) ∧ ∃ m, w' = w.drewN m := by
  have hf := (abs_fv hx).1
  have hR : ∀ W : World, mmR true .f32 x (Op.negFloat .f32 x) W = absW x := fun W => by
    have := cn_mmR true .f32 x (Op.negFloat .f32 x) W
    have h2 : isNan .f32 (mmR true .f32 x (Op.negFloat .f32 x) W) = false := by
      cases h : isNan .f32 (mmR true .f32 x (Op.negFloat .f32 x) W)
      · rfl
      · rw [cn_nan h] at this
        unfold absW at hf
        rw [← this] at hf; exact absurd hf (by decide +kernel)
    rw [cn_num h2] at this
    exact this
  clear hx hf
  go_enter Tryz.func50, Tryz.ntmps50
  go_wp2
  go_ret
  exact ⟨rfl, _, rfl⟩
theorem c_addUp {A : Option Addr} {n c B : Nat} {xs : List Nat} {w : World} (h : Reads w B 1 A n (fl .f32 xs)) (hn : n ≤ 100) (hg : ∀ x ∈ xs, Gr (-2) 8 x) : Calls Tryz.prog 88 #[.slice A n c] w fun e w' => e = .returned (.float .f32 (fsum xs)) ∧ ∃ m, w' = w.drewN m := by
  have hl := h.map_len
  have HF : Hid (∀ k, k ≤ n → fin .f32 (fsum (xs.take k)) = true) := hide (fun k hk => (gr_fsum (e := -2) (by decide) lp2 (l := xs.take k) (fun x hx => hg x (List.mem_of_mem_take hx)) (by rw [List.length_take]; omega)).1.1)
  have Hl := hide hl
  clear hg hl
  go_enter Tryz.func88, Tryz.ntmps88
  go_wp2
  go_loopw [3, 8] (fun s i wr => ∃ k q : Nat, k ≤ n ∧ i = .int .i64 (k : Int) ∧ s = .float .f32 (fsum (xs.take k)) ∧ wr = w.drewN q) (fun _ i _ => n - (intOf i).toNat)
  case atStart => exact ⟨0, 0, Nat.zero_le _, rfl, rfl, rfl⟩
  case round =>
    obtain ⟨k, q, hk, rfl, rfl, rfl⟩ := hrel
    by_cases hlt : k < n
    · have hI : (k : Int) < (n : Int) := by omega
      obtain ⟨ad, x, rfl, _, hx, hc⟩ := h.map_at hlt
      have hs : fsum (xs.take (k + 1)) = fb .add .f32 (fsum (xs.take k)) x := by
        rw [take_eq hx]; unfold fsum; rw [List.foldl_append]; rfl
      have hw : ∀ W, flR .add .f32 (fsum (xs.take k)) x W = fsum (xs.take (k + 1)) := fun W => by
        rw [hs]; exact flR_num (fin_n32 (by rw [← hs]; exact HF.out (k + 1) (by omega))) W
      clear hx hs
      go_wp2
      go_roundw
      case rel => exact ⟨k + 1, _, by omega, by go_num, by first | rfl | rw [hw], rfl⟩
      case measure => simp [intOf]; omega
    · obtain rfl : k = n := by omega
      have hall : Hid (xs.take k = xs) := hide (List.take_of_length_le (by rw [Hl.out]; exact Nat.le_refl _))
      go_wp2
      go_ret
      exact ⟨by rw [hall.out]; rfl, _, rfl⟩
theorem c_rate {A : Option Addr} {n c i k N : Nat} {ws : List Nat} {w : World} (h : Reads w w.heap.size 1 A N (fl .f32 ws)) (hN : n * n = N) (n8 : n ≤ 8) (hi : i < n) (hk : k < n) :
    Calls Tryz.prog 48 #[.agg #[.int .i64 (n : Int), .slice A N c], .int .i64 (i : Int), .int .i64 (k : Int)] w fun e w' => e = .returned (.float .f32 (ws.getD (i * n + k) 0)) ∧ Below w.heap.size w w' := by
  have hl := ij_lt hi hk
  rw [hN] at hl
  obtain ⟨q, hq⟩ : ∃ q, i * n = q := ⟨_, rfl⟩
  have hqI : (i : Int) * (n : Int) = (q : Int) := by rw [← hq, Int.natCast_mul]
  rw [hq] at hl ⊢
  obtain ⟨ad, x, rfl, hb, hx, hc⟩ := h.map_at hl
  have hx2 : ws.getD (q + k) 0 = x := by rw [List.getD_eq_getElem?_getD, hx]; rfl
  rw [hx2]
  have hN64 : N ≤ 64 := by have := Nat.mul_le_mul n8 n8; omega
  have hc2 : (w.alloc (.cells #[.int .i64 (n : Int), .slice (some ad) N c] 30)).cell? (ad.add (q + k)) = some (.float .f32 x) := Lib.cell?_alloc_some _ hc
  have hlI : (q : Int) + (k : Int) < (N : Int) := by omega
  clear hx hx2 hc h hN hq
  go_enter Tryz.func48, Tryz.ntmps48
  go_wp2
  go_ret
  exact ⟨rfl, (Below.refl _ _).alloc (Nat.le_refl _) _⟩
theorem reads_part {w : World} {B m q n : Nat} {ad : Addr} {L : List Nat} (h : Reads w B 1 (some ad) m (fl .f32 L)) (h2 : q + n ≤ m) : Reads w B 1 (some (ad.add q)) n (fl .f32 ((L.drop q).take n)) := by
  have hl := h.map_len
  refine ⟨by unfold fl; simp; omega, fun h0 => ?_⟩
  obtain ⟨ad', e, hb, hc⟩ := h.2 (by omega)
  injection e with e
  subst e
  have hbl : (ad.add q).block = ad.block := by unfold Addr.add; split <;> rfl
  refine ⟨ad.add q, rfl, by rw [hbl]; exact hb, fun j u hu => ?_⟩
  unfold fl at hu hc
  rw [List.getElem?_map, List.getElem?_take] at hu
  split at hu
  · rw [List.getElem?_drop] at hu
    have := hc (q + j) u (by rw [List.getElem?_map]; exact hu)
    rw [← this, Addr.add_add]
  · cases hu
theorem c_leaves {A : Option Addr} {n c k N : Nat} {ws : List Nat} {w : World} (h : Reads w w.heap.size 1 A N (fl .f32 ws)) (hN : n * n = N) (hc : N ≤ c) (hw : Cw n ws) (hk : k < n) :
    Calls Tryz.prog 47 #[.agg #[.int .i64 (n : Int), .slice A N c], .int .i64 (k : Int)] w fun e w' => e = .returned (.float .f32 (fsum (rwL ws n k))) ∧ Below w.heap.size w w' := by
  have n4 := hw.n4
  have n1 := hw.n1
  obtain ⟨q, hq⟩ : ∃ q, k * n = q := ⟨_, rfl⟩
  have hqI : (k : Int) * (n : Int) = (q : Int) := by rw [← hq, Int.natCast_mul]
  have hqI2 : ((k : Int) + 1) * (n : Int) = (q : Int) + (n : Int) := by rw [Int.add_mul, hqI, Int.one_mul]
  have hlt : q + n ≤ N := by
    have h2 := Nat.mul_le_mul_right n (show k + 1 ≤ n by omega)
    rw [Nat.add_mul, Nat.one_mul] at h2
    omega
  have hN64 : N ≤ 16 := by have := Nat.mul_le_mul n4 n4; omega
  obtain ⟨ad, x, rfl, hb, _, _⟩ := h.map_at (k := 0) (by omega)
  have hrd : Reads (w.alloc (.cells #[.int .i64 (n : Int), .slice (some ad) N c] 30)) w.heap.size 1 (some (ad.add q)) n (fl .f32 (rwL ws n k)) := by
    unfold rwL
    rw [hq]
    exact reads_part (h.alloc (Nat.le_refl _) (.cells #[.int .i64 (n : Int), .slice (some ad) N c] 30)) hlt
  have HC := hide (c_addUp (c := c - q) hrd (by omega) (fun x hx => (hw.q x (by unfold rwL at hx; exact List.mem_of_mem_drop (List.mem_of_mem_take hx))).1))
  have hq0 : (0 : Int) ≤ (q : Int) := by omega
  have hqn : (q : Int) ≤ (q : Int) + (n : Int) := by omega
  have hcI : (q : Int) + (n : Int) ≤ (c : Int) := by omega
  have hqc : q < c := by omega
  clear hrd hw h hq
  go_enter Tryz.func47, Tryz.ntmps47
  go_wp2_with fail
  refine HC.out.mono ?_
  rintro e w' ⟨rfl, m, rfl⟩
  go_wp2_with fail
  go_ret
  exact ⟨rfl, below_drewN ((Below.refl _ _).alloc (Nat.le_refl _) _) _⟩
end Go.Proofs.YtjmpldcnhjgpkaaGreatDoor

/-
  Rows of rows of floats in memory, and the way back through them: the program's walk.
-/
namespace Go.Proofs.YtjmpldcnhjgpkaaGreatDoor
open Go.RowKit Mem Fl
set_option linter.unusedVariables false
set_option maxRecDepth 100000

theorem info_sf32 : (Tryz.prog.info? 28).map (fun i => (i.zero, i.size, i.bytes)) = some (some (.slice none 0 0), 1, 24) := by kernel_rfl
/-- n rows of n + 1 floats each. -/
structure MatR (w : World) (B gr n : Nat) (gs cs : Nat → Nat) (e : Nat → Nat → Nat) : Prop where
  base : B ≤ gr
  row : ∃ cur, Blk w gr 28 cur ∧ n ≤ cur.size ∧ ∀ i, i < n → cur[i]? = some (.slice (some ⟨gs i, 0, none⟩) (n + 1) (cs i))
  cap : ∀ i, i < n → n + 1 ≤ cs i
  blk : ∀ i, i < n → B ≤ gs i ∧ ∃ cur, Blk w (gs i) 25 cur ∧ ∀ j, j < n + 1 → cur[j]? = some (.float .f32 (e i j))
  ne : ∀ i j, i < n → j < n → gs i = gs j → i = j
theorem ty_ne : 28 ≠ 25 := by decide
theorem MatR.far {w : World} {B gr n : Nat} {gs cs : Nat → Nat} {e : Nat → Nat → Nat} (h : MatR w B gr n gs cs e) {i : Nat} (hi : i < n) : gr ≠ gs i := by
  obtain ⟨cur, hb, _⟩ := h.row
  obtain ⟨_, cur2, hb2, _⟩ := h.blk i hi
  exact hb.ne_ hb2 ty_ne
theorem MatR.rowAt {w : World} {B gr n : Nat} {gs cs : Nat → Nat} {e : Nat → Nat → Nat} (h : MatR w B gr n gs cs e) {i : Nat} (hi : i < n) : w.cell? ⟨gr, i, none⟩ = some (.slice (some ⟨gs i, 0, none⟩) (n + 1) (cs i)) ∧ w.frozen? ⟨gr, i, none⟩ = false := by
  obtain ⟨cur, hb, _, hc⟩ := h.row
  exact ⟨by rw [hb.cell]; exact hc i hi, hb.frozen _⟩
theorem MatR.at_ {w : World} {B gr n : Nat} {gs cs : Nat → Nat} {e : Nat → Nat → Nat} (h : MatR w B gr n gs cs e) {i j : Nat} (hi : i < n) (hj : j < n + 1) : w.cell? ⟨gs i, j, none⟩ = some (.float .f32 (e i j)) ∧ w.frozen? ⟨gs i, j, none⟩ = false := by
  obtain ⟨_, cur, hb, hc⟩ := h.blk i hi
  exact ⟨by rw [hb.cell]; exact hc j hj, hb.frozen _⟩
theorem MatR.drewN {w : World} {B gr n : Nat} {gs cs : Nat → Nat} {e : Nat → Nat → Nat} (h : MatR w B gr n gs cs e) (m : Nat) : MatR (w.drewN m) B gr n gs cs e := ⟨h.base, h.row, h.cap, h.blk, h.ne⟩
theorem MatR.below {w w' : World} {B gr n : Nat} {gs cs : Nat → Nat} {e : Nat → Nat → Nat} (h : MatR w B gr n gs cs e) (hb : Below w.heap.size w w') : MatR w' B gr n gs cs e := by
  refine ⟨h.base, ?_, h.cap, fun i hi => ?_, h.ne⟩
  · obtain ⟨cur, hc, r⟩ := h.row
    exact ⟨cur, hc.below hb hc.lt, r⟩
  · obtain ⟨hB, cur, hc, r⟩ := h.blk i hi
    exact ⟨hB, cur, hc.below hb hc.lt, r⟩
theorem MatR.congr {w : World} {B gr n : Nat} {gs cs : Nat → Nat} {e e' : Nat → Nat → Nat} (h : MatR w B gr n gs cs e) (he : ∀ i j, i < n → j < n + 1 → e i j = e' i j) : MatR w B gr n gs cs e' := by
  refine ⟨h.base, h.row, h.cap, fun i hi => ?_, h.ne⟩
  obtain ⟨hB, cur, hc, r⟩ := h.blk i hi
  exact ⟨hB, cur, hc, fun j hj => by rw [r j hj, he i j hi hj]⟩
/-- A number is written. -/
theorem MatR.put {w : World} {B gr n : Nat} {gs cs : Nat → Nat} {e : Nat → Nat → Nat} (h : MatR w B gr n gs cs e) {i j : Nat} (hi : i < n) (hj : j < n + 1) (v : Nat) : MatR (w.setCell ⟨gs i, j, none⟩ (.float .f32 v)) B gr n gs cs (fun i' j' => if i' = i ∧ j' = j then v else e i' j') := by
  refine ⟨h.base, ?_, h.cap, fun i' hi' => ?_, h.ne⟩
  · obtain ⟨cur, hc, r⟩ := h.row
    exact ⟨cur, hc.far (h.far hi) _, r⟩
  · obtain ⟨hB, cur, hc, r⟩ := h.blk i' hi'
    by_cases he : i' = i
    · subst he
      refine ⟨hB, _, hc.set_ j _, fun j' hj' => ?_⟩
      have hs : j < cur.size := by
        have := r j hj
        rcases Nat.lt_or_ge j cur.size with h1 | h1
        · exact h1
        · rw [Array.getElem?_eq_none h1] at this; cases this
      rw [Array.getElem?_setIfInBounds]
      by_cases hj2 : j = j'
      · rw [if_pos hj2, if_pos (by omega), if_pos ⟨rfl, hj2.symm⟩]
      · rw [if_neg hj2, if_neg (fun h => hj2 h.2.symm)]; exact r j' hj'
    · refine ⟨hB, cur, hc.far (fun hg => he (h.ne _ _ hi' hi hg)) _, fun j' hj' => ?_⟩
      rw [if_neg (fun h => he h.1)]; exact r j' hj'
/-- Two rows are changed for one another. -/
theorem MatR.swap {w : World} {B gr n k b : Nat} {gs cs : Nat → Nat} {e : Nat → Nat → Nat} (h : MatR w B gr n gs cs e) (hk : k < n) (hb : b < n) :
    MatR ((w.setCell ⟨gr, k, none⟩ (.slice (some ⟨gs b, 0, none⟩) (n + 1) (cs b))).setCell ⟨gr, b, none⟩ (.slice (some ⟨gs k, 0, none⟩) (n + 1) (cs k))) B gr n (fun i => gs (swI k b i)) (fun i => cs (swI k b i)) (fun i j => e (swI k b i) j) := by
  refine ⟨h.base, ?_, fun i hi => h.cap _ (swI_lt hk hb hi), fun i hi => ?_, fun i j hi hj hg => ?_⟩
  · obtain ⟨cur, hc, hs, r⟩ := h.row
    refine ⟨_, (hc.set_ k _).set_ b _, by simpa using hs, fun i hi => ?_⟩
    rw [Array.getElem?_setIfInBounds, Array.getElem?_setIfInBounds, Array.size_setIfInBounds]
    unfold swI
    by_cases h1 : i = b
    · subst h1
      rw [if_pos rfl, if_pos (by omega), if_pos rfl]
    · rw [if_neg (fun h => h1 h.symm), if_neg h1]
      by_cases h2 : i = k
      · subst h2
        rw [if_pos rfl, if_pos (by omega), if_pos rfl]
      · rw [if_neg (fun h => h2 h.symm), if_neg h2]; exact r i hi
  · obtain ⟨hB, cur, hc, r⟩ := h.blk _ (swI_lt hk hb hi)
    exact ⟨hB, cur, (hc.far (h.far (swI_lt hk hb hi)).symm _).far (h.far (swI_lt hk hb hi)).symm _, r⟩
  · have := h.ne _ _ (swI_lt hk hb hi) (swI_lt hk hb hj) hg
    have h2 := congrArg (swI k b) this
    rwa [swI_swI, swI_swI] at h2
/-- What the way back asks for. -/
structure BkW (e : Nat → Nat → Nat) (M : List (List Nat)) (n : Nat) : Prop where
  n1 : 1 ≤ n
  n4 : n ≤ 4
  e : ∀ i j, i < n → j < n + 1 → el M i j = e i j
  m : ∀ m t, m < n → t < m → isNan .f32 (fb .mul .f32 (el M (n - 1 - m) (n - 1 - m + 1 + t)) ((bkO M n m).getD (n - 1 - m + 1 + t) 0)) = false
  s : ∀ m t, m < n → t ≤ m → isNan .f32 (bkX M n (n - 1 - m) (bkO M n m) t) = false
  q : ∀ m, m < n → isNan .f32 (fb .quo .f32 (bkX M n (n - 1 - m) (bkO M n m) m) (el M (n - 1 - m) (n - 1 - m))) = false
set_option maxHeartbeats 4000000 in
theorem i_backwards {B gr n c : Nat} {gs cs : Nat → Nat} {e : Nat → Nat → Nat} {M : List (List Nat)} {w : World} (h : MatR w B gr n gs cs e) (hw : BkW e M n) :
    Calls Tryz.prog 52 #[.slice (some ⟨gr, 0, none⟩) n c] w fun r w' => ∃ g, r = .returned (.slice (some ⟨g, 0, none⟩) n n) ∧ w.heap.size ≤ g ∧ Blk w' g 25 (fl .f32 (bkO M n n)).toArray ∧ Below w.heap.size w w' := by
  have n1 := hw.n1
  have n4 := hw.n4
  have HM := fun W => run_make1 (P := Tryz.prog) 28 25 (.float .f32 0) 4 info_f32 Tryz.underlying28 rfl n (by omega) (by omega) W
  have HW := hide hw
  have HR : Hid (∀ wr, Below w.heap.size w wr → MatR wr B gr n gs cs e) := hide (fun wr hb => h.below hb)
  clear h hw
  go_enter Tryz.func52, Tryz.ntmps52
  go_wp2_with fail
  have hz : (Array.replicate n (Value.float .f32 0)) = (fl .f32 (bkO M n 0)).toArray := by
    unfold fl bkO
    rw [List.map_replicate]
    rfl
  have b0 : Below w.heap.size w (w.alloc (.cells (Array.replicate n (.float .f32 0)) 25)) := (Below.refl _ _).alloc (Nat.le_refl _) _
  have k0 : Blk (w.alloc (.cells (Array.replicate n (.float .f32 0)) 25)) w.heap.size 25 (fl .f32 (bkO M n 0)).toArray := by rw [← hz]; exact Blk.new w _ _
  have n1I : (n : Int) - 1 = ((n - 1 : Nat) : Int) := by omega
  clear hz
  go_loopw [5] (fun v wr => ∃ m : Nat, m ≤ n ∧ v = .int .i64 ((n : Int) - 1 - (m : Int)) ∧ Hid (Blk wr w.heap.size 25 (fl .f32 (bkO M n m)).toArray) ∧ Hid (Below w.heap.size w wr)) (fun v _ => (intOf v + 1).toNat)
  case atStart => exact ⟨0, Nat.zero_le _, by simp, hide k0, hide b0⟩
  case round =>
    clear k0 b0 HM n1I
    obtain ⟨m, hm, rfl, HO, HB⟩ := hrel
    rename World => wo
    by_cases hmn : m < n
    · obtain ⟨k, hk⟩ : ∃ k, n - 1 - m = k := ⟨_, rfl⟩
      have hkI : (n : Int) - 1 - (m : Int) = (k : Int) := by omega
      have hkn : k < n := by omega
      have hkm : k + 1 + m = n := by omega
      have HR2 := hide (HR.out wo HB.out)
      rw [hkI]
      have Hk := hide hk
      have HkI := hide hkI
      have c1 := (HR2.out.rowAt hkn).1
      have c2 := (HR2.out.at_ hkn (show n < n + 1 by omega)).1
      obtain ⟨gk, hgk⟩ : ∃ gk, gs k = gk := ⟨_, rfl⟩
      obtain ⟨ck, hck⟩ : ∃ ck, cs k = ck := ⟨_, rfl⟩
      have hcap := HR2.out.cap k hkn
      rw [hgk, hck] at c1
      rw [hgk] at c2
      rw [hck] at hcap
      have Hgk := hide hgk
      have hx0 : e k n = bkX M n k (bkO M n m) 0 := by rw [← HW.out.e k n hkn (by omega)]; rfl
      rw [hx0] at c2
      have hkI2 : (k : Int) < (n : Int) := by omega
      have hk0 : (0 : Int) ≤ (k : Int) := by omega
      clear hk hkI hgk hck hx0
      go_wp2
      go_loopw [6, 7] (fun x j wr => ∃ t q : Nat, t ≤ m ∧ j = .int .i64 ((k : Int) + 1 + (t : Int)) ∧ x = .float .f32 (bkX M n k (bkO M n m) t) ∧ wr = wo.drewN q) (fun _ j _ => n - (intOf j).toNat)
      case atStart => exact ⟨0, 0, Nat.zero_le _, by simp, rfl, rfl⟩
      case round =>
        obtain ⟨t, q, ht, rfl, rfl, hwr⟩ := hrel
        rename World => wr
        by_cases htm : t < m
        · obtain ⟨j, hj⟩ : ∃ j, k + 1 + t = j := ⟨_, rfl⟩
          have hjI : (k : Int) + 1 + (t : Int) = (j : Int) := by omega
          have hjn : j < n := by omega
          have d1 : wr.cell? ⟨gr, k, none⟩ = some (.slice (some ⟨gk, 0, none⟩) (n + 1) ck) := by rw [hwr]; exact c1
          have d2 : wr.cell? ⟨gk, j, none⟩ = some (.float .f32 (e k j)) := by
            have := (HR2.out.at_ hkn (show j < n + 1 by omega)).1
            rw [Hgk.out] at this
            rw [hwr]; exact this
          obtain ⟨Z, hZ⟩ : ∃ Z, (bkO M n m).getD j 0 = Z := ⟨_, rfl⟩
          have d3 : wr.cell? ⟨w.heap.size, j, none⟩ = some (.float .f32 Z) := by
            rw [hwr]
            show wo.cell? _ = _
            rw [HO.out.cell]
            unfold fl
            rw [List.getElem?_toArray, List.getElem?_map, List.getElem?_eq_getElem (by rw [bkO_len]; exact hjn), ← hZ, List.getD_eq_getElem?_getD, List.getElem?_eq_getElem (by rw [bkO_len]; exact hjn)]
            rfl
          have hm1 := HW.out.m m t hmn htm
          have hs1 := HW.out.s m (t + 1) hmn (by omega)
          rw [Hk.out] at hm1 hs1
          have e1 := HW.out.e k j hkn (by omega)
          have hstep : bkX M n k (bkO M n m) (t + 1) = fb .sub .f32 (bkX M n k (bkO M n m) t) (fb .mul .f32 (e k j) Z) := by
            simp only [bkX]; rw [hj, e1, hZ]
          rw [hj, e1, hZ] at hm1
          rw [hstep] at hs1
          obtain ⟨E1, hE1⟩ : ∃ E1, e k j = E1 := ⟨_, rfl⟩
          rw [hE1] at hm1 hs1 hstep d2
          obtain ⟨P, hP⟩ : ∃ P, fb .mul .f32 E1 Z = P := ⟨_, rfl⟩
          have f1 : ∀ W, flR .mul .f32 E1 Z W = P := fun W => by rw [← hP]; exact flR_num hm1 W
          have f1n : flN .mul .f32 E1 Z = 0 := flN_num hm1
          rw [hP] at hs1 hstep
          obtain ⟨X0, hX0⟩ : ∃ X0, bkX M n k (bkO M n m) t = X0 := ⟨_, rfl⟩
          rw [hX0] at hs1 hstep ⊢
          obtain ⟨X1, hX1⟩ : ∃ X1, fb .sub .f32 X0 P = X1 := ⟨_, rfl⟩
          have f2 : ∀ W, flR .sub .f32 X0 P W = X1 := fun W => by rw [← hX1]; exact flR_num hs1 W
          have f2n : flN .sub .f32 X0 P = 0 := flN_num hs1
          rw [hX1] at hstep
          have HS := hide hstep
          have Hwr := hide hwr
          have HjI := hide hjI
          rw [hjI]
          have hjn1 : (j : Int) < (n : Int) := by omega
          have hj1 : j < n + 1 := by omega
          clear hm1 hs1 e1 hstep hE1 hP hX0 hX1 hZ hwr hj hjI
          go_wp2
          go_quiet (fail)
          go_wp2
          go_roundw
          case rel => exact ⟨t + 1, _, by omega, by rw [← HjI.out]; simp; omega, by rw [HS.out], by rw [Hwr.out, World.drewN_drewN]⟩
          case measure => simp [intOf]; omega
        · obtain rfl : t = m := by omega
          have hjI : (k : Int) + 1 + (t : Int) = (n : Int) := by omega
          rw [hjI]
          have d1 : wr.cell? ⟨gr, k, none⟩ = some (.slice (some ⟨gk, 0, none⟩) (n + 1) ck) := by rw [hwr]; exact c1
          have d2 : wr.cell? ⟨gk, k, none⟩ = some (.float .f32 (e k k)) := by
            have := (HR2.out.at_ hkn (show k < n + 1 by omega)).1
            rw [Hgk.out] at this
            rw [hwr]; exact this
          have HO2 : Blk wr w.heap.size 25 (fl .f32 (bkO M n t)).toArray := by rw [hwr]; exact HO.out.drewN q
          have HB2 := hide (show Below w.heap.size w wr by rw [hwr]; exact below_drewN HB.out q)
          have d3 : (wr.cell? ⟨w.heap.size, k, none⟩).isSome = true := by
            rw [HO2.cell]
            unfold fl
            rw [List.getElem?_toArray, List.getElem?_map, List.getElem?_eq_getElem (by rw [bkO_len]; exact hkn)]; rfl
          obtain ⟨old, hold⟩ := Option.isSome_iff_exists.1 d3
          have d4 := HO2.frozen k
          have hq1 := HW.out.q t hmn
          rw [Hk.out] at hq1
          have e1 := HW.out.e k k hkn (by omega)
          rw [e1] at hq1
          have HS : Hid (bkO M n (t + 1) = (bkO M n t).set k (fb .quo .f32 (bkX M n k (bkO M n t) t) (e k k))) := hide (by
            have : bkO M n (t + 1) = (bkO M n t).set (n - 1 - t) (fb .quo .f32 (bkX M n (n - 1 - t) (bkO M n t) t) (el M (n - 1 - t) (n - 1 - t))) := rfl
            rw [this, Hk.out, e1])
          have HO3 := hide HO2
          obtain ⟨E1, hE1⟩ : ∃ E1, e k k = E1 := ⟨_, rfl⟩
          rw [hE1] at hq1 d2 HS
          obtain ⟨X0, hX0⟩ : ∃ X0, bkX M n k (bkO M n t) t = X0 := ⟨_, rfl⟩
          rw [hX0] at hq1 HS ⊢
          obtain ⟨Q, hQ⟩ : ∃ Q, fb .quo .f32 X0 E1 = Q := ⟨_, rfl⟩
          have f1 : ∀ W, flR .quo .f32 X0 E1 W = Q := fun W => by rw [← hQ]; exact flR_num hq1 W
          have f1n : flN .quo .f32 X0 E1 = 0 := flN_num hq1
          rw [hQ] at HS
          have HL : Hid (((fl .f32 (bkO M n t)).toArray.setIfInBounds k (.float .f32 Q)) = (fl .f32 (bkO M n (t + 1))).toArray) := hide (by
            rw [HS.out]
            unfold fl
            rw [List.map_set]
            simp)
          clear hq1 e1 hE1 hX0 hQ HO2 d3 hwr hjI HS
          go_wp2
          go_roundw
          case rel => exact ⟨t + 1, by omega, by rw [← HkI.out]; simp; omega, hide (by have := HO3.out.set_ k (.float .f32 Q); rwa [HL.out] at this), hide (HB2.out.setCell (p := ⟨w.heap.size, k, none⟩) (Nat.le_refl _) _)⟩
          case measure => simp [intOf]
    · obtain rfl : m = n := by omega
      have hI : (m : Int) - 1 - (m : Int) = -1 := by omega
      rw [hI]
      go_wp2
      go_ret
      exact ⟨w.heap.size, rfl, Nat.le_refl _, HO.out, HB.out⟩
end Go.Proofs.YtjmpldcnhjgpkaaGreatDoor

/-
  slices.Repeat of one float: the library's walk.
-/
namespace Go.Proofs.YtjmpldcnhjgpkaaGreatDoor
open Go.RowKit Mem Fl
set_option linter.unusedVariables false
set_option maxRecDepth 100000

theorem g_Mul64 {c : Nat} {w : World} (h2 : 2 ≤ c) (h5 : c ≤ 5) : Calls Tryz.prog 124 #[.int .u64 1, .int .u64 (c : Int)] w fun e w' => e = .returned (.tuple #[.int .u64 0, .int .u64 (c : Int)]) ∧ w = w' := by
  rcases (by omega : c = 2 ∨ c = 3 ∨ c = 4 ∨ c = 5) with rfl | rfl | rfl | rfl
  all_goals
    go_enter Tryz.func124, Tryz.ntmps124
    go_wp2
    go_ret2
    exact ⟨rfl, rfl⟩
theorem g_Mul {c : Nat} {w : World} (h2 : 2 ≤ c) (h5 : c ≤ 5) : Calls Tryz.prog 89 #[.int .u64 1, .int .u64 (c : Int)] w fun e w' => e = .returned (.tuple #[.int .u64 0, .int .u64 (c : Int)]) ∧ w = w' := by
  go_enter Tryz.func89, Tryz.ntmps89
  go_wp2_with (go_at_call 124; refine (g_Mul64 h2 h5).mono ?_; rintro e w' ⟨rfl, rfl⟩)
  go_ret2
  exact ⟨rfl, rfl⟩
theorem size_f32 : (Tryz.prog.info? 25).map (·.size) = some 1 := by kernel_rfl
/-- A row of ones, and of nothings behind them. -/
def rpL (u c m : Nat) : List Value := List.replicate m (.float .f32 u) ++ List.replicate (c - m) (.float .f32 0)
theorem rpL_put {u c m d : Nat} (hd : d = min m (c - m)) (hm : m ≤ c) : ((rpL u c m).toArray.toList.take m ++ List.replicate d (Value.float .f32 u) ++ (rpL u c m).toArray.toList.drop (m + d)) = rpL u c (m + d) := by
  unfold rpL
  have e1 : (List.replicate m (Value.float .f32 u) ++ List.replicate (c - m) (Value.float .f32 0)).take m = List.replicate m (Value.float .f32 u) := by
    rw [List.take_append_of_le_length (by simp), List.take_of_length_le (by simp)]
  have e2 : (List.replicate m (Value.float .f32 u) ++ List.replicate (c - m) (Value.float .f32 0)).drop (m + d) = List.replicate (c - (m + d)) (Value.float .f32 0) := by
    rw [List.drop_append, List.drop_eq_nil_of_le (by simp), List.nil_append, List.length_replicate, List.drop_replicate]
    congr 1; omega
  rw [List.toList_toArray, e1, e2, List.replicate_append_replicate]
set_option maxHeartbeats 1000000 in
theorem g_Repeat {g c u : Nat} {w : World} (h2 : 2 ≤ c) (h5 : c ≤ 5) (hg : g < w.heap.size) (hc : w.cell? ⟨g, 0, none⟩ = some (.float .f32 u)) :
    Calls Tryz.prog 49 #[.slice (some ⟨g, 0, none⟩) 1 1, .int .i64 (c : Int)] w fun e w' => ∃ g', e = .returned (.slice (some ⟨g', 0, none⟩) c c) ∧ w.heap.size ≤ g' ∧ Blk w' g' 25 (rpL u c c).toArray ∧ Below w.heap.size w w' := by
  have HM := run_make1 (P := Tryz.prog) 28 25 (.float .f32 0) 4 info_f32 Tryz.underlying28 rfl c (by omega) (by omega) w
  have b1 : Below w.heap.size w (w.alloc (.cells (Array.replicate c (.float .f32 0)) 25)) := (Below.refl _ _).alloc (Nat.le_refl _) _
  have k1 : Blk (w.alloc (.cells (Array.replicate c (.float .f32 0)) 25)) w.heap.size 25 (rpL u c 0).toArray := by
    have : (rpL u c 0).toArray = Array.replicate c (.float .f32 0) := by unfold rpL; simp
    rw [this]; exact Blk.new w _ _
  have hc1 : (w.alloc (.cells (Array.replicate c (.float .f32 0)) 25)).cell? ⟨g, 0, none⟩ = some (.float .f32 u) := Lib.cell?_alloc_some _ hc
  have hcp : ∀ ty, (Builtin.copy_ #[28, 28] ty #[.slice (some ⟨w.heap.size, 0, none⟩) c c, .slice (some ⟨g, 0, none⟩) 1 1]).run Tryz.prog (w.alloc (.cells (Array.replicate c (.float .f32 0)) 25)) = .ok (.int .i64 1) ((w.alloc (.cells (Array.replicate c (.float .f32 0)) 25)).setRow w.heap.size (rpL u c 1).toArray) := fun ty => by
    have := run_copy_row (P := Tryz.prog) (w.alloc (.cells (Array.replicate c (.float .f32 0)) 25)) 28 28 ty 25 w.heap.size 0 c c ⟨g, 0, none⟩ 1 1 (rpL u c 0).toArray 25 [.float .f32 u] Tryz.underlying28 size_f32 k1 (by show 1 = min 1 c; omega) (fun j v hv => by
      rcases Nat.eq_zero_or_pos j with rfl | hj
      · simp at hv; subst hv; exact hc1
      · rw [List.getElem?_eq_none (by simp; omega)] at hv; cases hv) (by simp [rpL]; omega) (fun v hv => by rw [List.mem_singleton] at hv; subst hv; rfl)
    rw [this]
    have e : ((rpL u c 0).toArray.toList.take 0 ++ [Value.float .f32 u] ++ (rpL u c 0).toArray.toList.drop (0 + 1)) = rpL u c 1 := by
      unfold rpL
      simp
    simp only [List.length_singleton]
    rw [e]; rfl
  have k2 : Blk ((w.alloc (.cells (Array.replicate c (.float .f32 0)) 25)).setRow w.heap.size (rpL u c 1).toArray) w.heap.size 25 (rpL u c 1).toArray := by
    exact setRow_heap _ _ _ _ _ _ k1
  have b2 : Below w.heap.size w ((w.alloc (.cells (Array.replicate c (.float .f32 0)) 25)).setRow w.heap.size (rpL u c 1).toArray) := below_setRow b1 (Nat.le_refl _) _
  have HK := hide k2
  have HB := hide b2
  have hcI : ¬ (9223372036854775807 : Int) < (c : Int) := by omega
  clear hc hc1 k1 b1 k2 b2
  go_enter Tryz.func49, Tryz.ntmps49
  go_wp2_with (go_at_call 89; refine (g_Mul h2 h5).mono ?_; rintro e w' ⟨rfl, rfl⟩)
  go_loopw [8] (fun v wr => ∃ m : Nat, 1 ≤ m ∧ m ≤ c ∧ v = .int .i64 (m : Int) ∧ Hid (Blk wr w.heap.size 25 (rpL u c m).toArray) ∧ Hid (Below w.heap.size w wr)) (fun v _ => c - (intOf v).toNat)
  case atStart => exact ⟨1, by omega, by omega, rfl, HK, HB⟩
  case round =>
    clear HM hcp HK HB
    obtain ⟨m, hm1, hm, rfl, HK, HB⟩ := hrel
    rename World => wo
    by_cases hlt : m < c
    · obtain ⟨d, hd⟩ : ∃ d, min m (c - m) = d := ⟨_, rfl⟩
      have hd1 : 1 ≤ d := by omega
      have hdc : m + d ≤ c := by omega
      have hcp : ∀ (q : Nat) (ty : TypeId), (Builtin.copy_ #[28, 28] ty #[.slice (some ⟨w.heap.size, m, none⟩) (c - m) (c - m), .slice (some ⟨w.heap.size, 0, none⟩) m c]).run Tryz.prog (wo.drewN q) = .ok (.int .i64 (d : Int)) ((wo.drewN q).setRow w.heap.size (rpL u c (m + d)).toArray) := fun q ty => by
        have := run_copy_row (P := Tryz.prog) (wo.drewN q) 28 28 ty 25 w.heap.size m (c - m) (c - m) ⟨w.heap.size, 0, none⟩ m c (rpL u c m).toArray 25 (List.replicate d (.float .f32 u)) Tryz.underlying28 size_f32 (HK.out.drewN q) (by rw [List.length_replicate]; exact hd.symm) (fun j v hv => by
          rw [List.getElem?_replicate] at hv
          split at hv
          · injection hv with hv
            subst hv
            rw [Addr.add_lit, Nat.zero_add, (HK.out.drewN q).cell]
            unfold rpL
            rw [List.getElem?_toArray, List.getElem?_append_left (by simp; omega), List.getElem?_replicate, if_pos (by omega)]
          · cases hv) (by simp [rpL]; omega) (fun v hv => by rw [(List.mem_replicate.1 hv).2]; rfl)
        rw [this, List.length_replicate, rpL_put hd.symm hm]; rfl
      have hcm : ¬ c = m := by omega
      have hcp1 : ∀ ty : TypeId, (Builtin.copy_ #[28, 28] ty #[.slice (some ⟨w.heap.size, m, none⟩) (c - m) (c - m), .slice (some ⟨w.heap.size, 0, none⟩) m c]).run Tryz.prog wo.drew = .ok (.int .i64 (d : Int)) (wo.drew.setRow w.heap.size (rpL u c (m + d)).toArray) := fun ty => hcp 1 ty
      have HK2 : Hid (Blk (wo.drew.setRow w.heap.size (rpL u c (m + d)).toArray) w.heap.size 25 (rpL u c (m + d)).toArray) := hide (setRow_heap _ _ _ _ _ _ (HK.out.drewN 1))
      have HB2 : Hid (Below w.heap.size w (wo.drew.setRow w.heap.size (rpL u c (m + d)).toArray)) := hide (below_setRow (below_drewN HB.out 1) (Nat.le_refl _) _)
      have hmI : (m : Int) < (c : Int) := by omega
      clear hcp HK HB hd
      go_wp2
      go_region
      go_wp2
      go_roundw
      case rel => exact ⟨m + d, by omega, by omega, by go_num, HK2, HB2⟩
      case measure => simp [intOf]; omega
    · obtain rfl : m = c := by omega
      go_wp2
      go_ret
      exact ⟨w.heap.size, rfl, Nat.le_refl _, HK.out, HB.out⟩
end Go.Proofs.YtjmpldcnhjgpkaaGreatDoor

/-
  What a round of BalanceOf's columns asks for: plain facts of words.
-/
namespace Go.Proofs.YtjmpldcnhjgpkaaGreatDoor
open Go.RowKit Mem Fl
set_option linter.unusedVariables false
set_option maxRecDepth 100000

theorem mul_fin {q u : Nat} (hq : fin .f32 q = true) (hu : fin .f32 u = true) (q1 : fv .f32 q ≤ 1001 / 1000) (q2 : -fv .f32 q ≤ 1001 / 1000) (u1 : fv .f32 u ≤ 100) (u2 : -fv .f32 u ≤ 100) : fin .f32 (fb .mul .f32 q u) = true := by
  obtain ⟨m1, m2⟩ := abs_mul q1 q2 u1 u2
  have hb := big12
  exact (re_mul hq hu (by grind) (by grind)).1
/-- What stands behind the change of rows. -/
def eS (ws : List Nat) (n k i j : Nat) : Nat := el (gau (bM ws n) n k) (swI k (bst (gau (bM ws n) n k) k (n - k)) i) j
structure Stg (ws : List Nat) (n k : Nat) : Prop where
  a : ∀ i, i < n → fin .f32 (el (gau (bM ws n) n k) i k) = true
  b : ∀ m, k + m ≤ n → k ≤ bst (gau (bM ws n) n k) k m ∧ bst (gau (bM ws n) n k) k m < n
  z : (FloatKind.f32.format.order (eS ws n k k k) 0 == some .eq) = false
  q : ∀ i, k < i → i < n → isNan .f32 (fb .quo .f32 (eS ws n k i k) (eS ws n k k k)) = false
  m : ∀ i j, k < i → i < n → j < n + 1 → isNan .f32 (fb .mul .f32 (fb .quo .f32 (eS ws n k i k) (eS ws n k k k)) (eS ws n k k j)) = false
  s : ∀ i j, k < i → i < n → j < n + 1 → isNan .f32 (fb .sub .f32 (eS ws n k i j) (fb .mul .f32 (fb .quo .f32 (eS ws n k i k) (eS ws n k k k)) (eS ws n k k j))) = false
theorem stg_ok {n k : Nat} {ws : List Nat} (h : Cw n ws) (hk : k < n) : Stg ws n k := by
  have n4 := h.n4
  obtain ⟨G, hi⟩ := inv_gau h k (by omega)
  have hfar := gau_far h hk
  obtain ⟨M, hM⟩ : ∃ M, gau (bM ws n) n k = M := ⟨_, rfl⟩
  have heS : ∀ i j, eS ws n k i j = el M (swI k (bst M k (n - k)) i) j := fun i j => by unfold eS; rw [hM]
  rw [hM] at hi hfar
  have hbs := fun m (hm : k + m ≤ n) => bst_ok (n := n) (k := k) (M := M) (fun i hi2 => (hi.f i k hi2 (by omega)).1) m hm hk
  obtain ⟨b1, b2, b3⟩ := hbs (n - k) (by omega)
  obtain ⟨b, hb⟩ : ∃ b, bst M k (n - k) = b := ⟨_, rfl⟩
  rw [hb] at b1 b2 b3 hfar
  have hl := hi.l
  have hes : ∀ i j, eS ws n k i j = el (swp M k b) i j := fun i j => by
    rw [heS, hb]; unfold el; rw [swp_getD (by omega) (by omega)]
  have hsw := inv_swp hi b1 b2
  have hB := bf_ge k
  have hB2 := bf_le k (by omega)
  have hkk : el (swp M k b) k k = el M b k := by
    unfold el
    rw [swp_getD (by omega) (by omega)]
    unfold swI
    by_cases hkb : k = b
    · rw [if_pos hkb, hkb]
    · rw [if_neg hkb, if_pos rfl]
  obtain ⟨fb1, _⟩ := hi.f b k b2 (by omega)
  obtain ⟨_, ab2, ab3, ab4⟩ := abs_fv fb1
  have hq : ∀ i, k < i → i < n → _ := fun i h1 h2 => q_stepB (B := Bf k) (hsw.f i k h2 (by omega)).1 (hsw.f k k hk (by omega)).1 rfl rfl hB hB2 (hsw.f k k hk (by omega)).2.1 (hsw.f k k hk (by omega)).2.2 hfar
    (by
      have e : el (swp M k b) i k = el M (swI k b i) k := by unfold el; rw [swp_getD (by omega) (by omega)]
      have h3 : k ≤ swI k b i := by unfold swI; split <;> (try split) <;> omega
      have h4 := swI_lt hk b2 h2
      obtain ⟨_, c2, c3, _⟩ := abs_fv (hi.f _ k h4 (by omega)).1
      have := b3 _ h3 (by omega)
      rw [e, hkk]
      rcases ab4 with h | h <;> rw [h] at this
      · left; grind
      · right; grind)
    (by
      have e : el (swp M k b) i k = el M (swI k b i) k := by unfold el; rw [swp_getD (by omega) (by omega)]
      have h3 : k ≤ swI k b i := by unfold swI; split <;> (try split) <;> omega
      have h4 := swI_lt hk b2 h2
      obtain ⟨_, c2, c3, _⟩ := abs_fv (hi.f _ k h4 (by omega)).1
      have := b3 _ h3 (by omega)
      rw [e, hkk]
      rcases ab4 with h | h <;> rw [h] at this
      · left; grind
      · right; grind)
  have hs : ∀ i j, k < i → i < n → j < n + 1 → _ := fun i j h1 h2 h3 => el_step (B := Bf k) (hsw.f i j h2 h3).1 (hsw.f k j hk h3).1 (hq i h1 h2).1 rfl rfl rfl hB hB2 (hsw.f i j h2 h3).2.1 (hsw.f i j h2 h3).2.2 (hsw.f k j hk h3).2.1 (hsw.f k j hk h3).2.2 (hq i h1 h2).2.1 (hq i h1 h2).2.2.1
  refine ⟨fun i hi2 => by rw [hM]; exact (hi.f i k hi2 (by omega)).1, fun m hm => by rw [hM]; obtain ⟨x, y, _⟩ := hbs m hm; exact ⟨x, y⟩, ?_, fun i h1 h2 => ?_, fun i j h1 h2 h3 => ?_, fun i j h1 h2 h3 => ?_⟩
  · rw [hes, ord_eq (hsw.f k k hk (by omega)).1 f0'.1, f0'.2]
    refine decide_eq_false (fun hz => ?_)
    rw [hz] at hfar
    rcases hfar with h | h <;> grind
  · rw [hes, hes]; exact fin_n32 (hq i h1 h2).1
  · rw [hes, hes, hes]
    obtain ⟨x, y, z⟩ := hsw.f k j hk h3
    exact fin_n32 (mul_fin (hq i h1 h2).1 x (hq i h1 h2).2.1 (hq i h1 h2).2.2.1 (by grind) (by grind))
  · rw [hes, hes, hes, hes]; exact fin_n32 (hs i j h1 h2 h3).1
/-- The numbers while the rows are cleared. -/
def fP (E : Nat → Nat → Nat) (k r c i j : Nat) : Nat := if k < i ∧ k < j ∧ (i < r ∨ (i = r ∧ j < c)) then fb .sub .f32 (E i j) (fb .mul .f32 (fb .quo .f32 (E i k) (E k k)) (E k j)) else E i j
theorem fP_0 (E : Nat → Nat → Nat) (k i j : Nat) : fP E k (k + 1) (k + 1) i j = E i j := by
  unfold fP; rw [if_neg (by omega)]
theorem fP_row {E : Nat → Nat → Nat} {k r n i j : Nat} (hj : j < n + 1) : fP E k r (n + 1) i j = fP E k (r + 1) (k + 1) i j := by
  unfold fP
  by_cases h : k < i ∧ k < j ∧ (i < r ∨ (i = r ∧ j < n + 1))
  · rw [if_pos h, if_pos ⟨h.1, h.2.1, by omega⟩]
  · rw [if_neg h, if_neg (fun h2 => h ⟨h2.1, h2.2.1, by omega⟩)]
theorem fP_step {E : Nat → Nat → Nat} {k r c i j : Nat} (hr : k < r) (hc : k < c) : (if i = r ∧ j = c then fb .sub .f32 (E r c) (fb .mul .f32 (fb .quo .f32 (E r k) (E k k)) (E k c)) else fP E k r c i j) = fP E k r (c + 1) i j := by
  unfold fP
  by_cases h : i = r ∧ j = c
  · obtain ⟨rfl, rfl⟩ := h
    rw [if_pos ⟨rfl, rfl⟩, if_pos ⟨hr, hc, by omega⟩]
  · rw [if_neg h]
    by_cases h2 : k < i ∧ k < j ∧ (i < r ∨ (i = r ∧ j < c))
    · rw [if_pos h2, if_pos ⟨h2.1, h2.2.1, by omega⟩]
    · rw [if_neg h2, if_neg (fun h3 => h2 ⟨h3.1, h3.2.1, by omega⟩)]
theorem fP_low (E : Nat → Nat → Nat) (k r c j : Nat) : fP E k r c k j = E k j := by unfold fP; rw [if_neg (by omega)]
theorem fP_col (E : Nat → Nat → Nat) (k r c i : Nat) : fP E k r c i k = E i k := by unfold fP; rw [if_neg (by omega)]
theorem fP_at (E : Nat → Nat → Nat) (k r c : Nat) : fP E k r c r c = E r c := by unfold fP; rw [if_neg (by omega)]
theorem fP_end {ws : List Nat} {n k i j : Nat} (hw : Cw n ws) (hk : k < n) (hi : i < n) (hj : j < n + 1) : fP (eS ws n k) k n (k + 1) i j = el (gau (bM ws n) n (k + 1)) i j := by
  obtain ⟨G, hv⟩ := inv_gau hw k (by omega)
  have hl := hv.l
  have hbs := (stg_ok hw hk).b (n - k) (by omega)
  have hes : ∀ i j, eS ws n k i j = el (swp (gau (bM ws n) n k) k (bst (gau (bM ws n) n k) k (n - k))) i j := fun i j => by
    unfold eS el; rw [swp_getD (by omega) (by omega)]
  have e1 : gau (bM ws n) n (k + 1) = elim (swp (gau (bM ws n) n k) k (bst (gau (bM ws n) n k) k (n - k))) k n := rfl
  rw [e1, el_elim hi hj]
  unfold fP
  by_cases h : k < i ∧ k < j
  · rw [if_pos ⟨h.1, h.2, by omega⟩, if_pos h, hes, hes, hes, hes]
  · rw [if_neg (fun h2 => h ⟨h2.1, h2.2.1⟩), if_neg h, hes]
/-- The way back is told to the word. -/
theorem bal_words {n : Nat} {ws : List Nat} (h : Cw n ws) :
    (∀ m t, m < n → t < m → isNan .f32 (fb .mul .f32 (el (gau (bM ws n) n n) (n - 1 - m) (n - 1 - m + 1 + t)) ((bkO (gau (bM ws n) n n) n m).getD (n - 1 - m + 1 + t) 0)) = false) ∧
    (∀ m t, m < n → t ≤ m → isNan .f32 (bkX (gau (bM ws n) n n) n (n - 1 - m) (bkO (gau (bM ws n) n n) n m) t) = false) ∧
    (∀ m, m < n → isNan .f32 (fb .quo .f32 (bkX (gau (bM ws n) n n) n (n - 1 - m) (bkO (gau (bM ws n) n n) n m) m) (el (gau (bM ws n) n n) (n - 1 - m) (n - 1 - m))) = false) := by
  have n4 := h.n4
  obtain ⟨G, hi⟩ := inv_gau h n (Nat.le_refl _)
  have hM := gau_le h (Nat.le_refl n)
  have hO := bkO_ok n4 hM hi.p
  obtain ⟨M, hM'⟩ : ∃ M, gau (bM ws n) n n = M := ⟨_, rfl⟩
  rw [hM'] at hM hO hi ⊢
  refine ⟨fun m t hm ht => ?_, fun m t hm ht => ?_, fun m hm => ?_⟩
  · obtain ⟨a, b, c⟩ := hM (n - 1 - m) (n - 1 - m + 1 + t) (by omega) (by omega)
    obtain ⟨d, e, f⟩ := hO m (by omega) (n - 1 - m + 1 + t)
    have hOb := ob_le m (by omega)
    obtain ⟨m1, m2⟩ := abs_mul b c e f
    have hb := bigC32
    exact fin_n32 (re_mul a d (by grind) (by grind)).1
  · exact fin_n32 (bkX_ok (m := m) hM (by omega) (by omega) (ob_nn m) (ob_le m (by omega)) (hO m (by omega)) t ht).1
  · have hall := (hO (m + 1) (by omega) (n - 1 - m)).1
    have e : (bkO M n (m + 1)).getD (n - 1 - m) 0 = fb .quo .f32 (bkX M n (n - 1 - m) (bkO M n m) m) (el M (n - 1 - m) (n - 1 - m)) := by
      have hset : bkO M n (m + 1) = (bkO M n m).set (n - 1 - m) (fb .quo .f32 (bkX M n (n - 1 - m) (bkO M n m) m) (el M (n - 1 - m) (n - 1 - m))) := rfl
      rw [hset, List.getD_eq_getElem?_getD, List.getElem?_set, if_pos rfl, if_pos (by rw [bkO_len]; omega)]; rfl
    rw [e] at hall
    exact fin_n32 hall
end Go.Proofs.YtjmpldcnhjgpkaaGreatDoor
