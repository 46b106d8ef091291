/-
  Contracts of the source of choices: a number below some number, lists of small numbers.
-/
import Derived.Test.YteabfkgbakoljaaPhZ
import Derived.Laws.BitsAllLaws
import Derived.IntWalk
namespace Go.Proofs.Yteabfkgbakoljaa
open Go.RowKit Fl Mem
set_option linter.unusedVariables false
set_option maxRecDepth 100000

/-- The source in block g reads the bytes of a slice; q are read. -/
def SrcAt (w : World) (g : Nat) (A : Option Addr) (n c q : Nat) (s : Int) : Prop := Blk w g 109 #[.slice A n c, .int .i64 (q : Int), .int .u64 s]

theorem s_l00From {A : Option Addr} {n c : Nat} {w : World} : Calls Try.prog 61 #[.slice A n c] w fun e w' => e = .returned (.pointer (some ⟨w.heap.size, 0, none⟩)) ∧ w' = w.alloc (.cells #[.slice A n c, .int .i64 0, .int .u64 0] 109) := by
  go_enter Try.func61, Try.ntmps61
  go_wp2
  go_ret
  exact ⟨rfl, rfl⟩

theorem src_byte {w : World} {B n k : Nat} {A : Option Addr} {xs : List Int} (h : Reads w B 1 A n (xs.map (Value.int .u8))) (hx : ∀ a ∈ xs, (Lit.int .u8 a).wf = true) (hk : k < n) :
    ∃ ad x, A = some ad ∧ ad.block < B ∧ w.cell? (ad.add k) = some (.int .u8 x) ∧ 0 ≤ x ∧ x ≤ 255 := by
  obtain ⟨ad, x, e, hb, hx2, hc⟩ := h.map_at hk
  refine ⟨ad, x, e, hb, hc, ?_⟩
  have := hx x (List.mem_of_getElem? hx2)
  have h1 : IntKind.min .u8 = 0 := by decide
  have h2 : IntKind.max .u8 = 255 := by decide
  simp only [Lit.wf, Bool.and_eq_true, decide_eq_true_eq, h1, h2] at this
  exact this

theorem u64_range (x : Int) : 0 ≤ IntKind.u64.wrap x ∧ IntKind.u64.wrap x < 18446744073709551616 := by
  have h : IntKind.u64.wrap x = x % 18446744073709551616 := rfl
  rw [h]
  omega
theorem low_byte (x : Int) (h0 : 0 ≤ x) (h1 : x < 18446744073709551616) : 0 ≤ wrap64 (bits .and .u64 x 255) ∧ wrap64 (bits .and .u64 x 255) ≤ 255 := by
  rw [u64_and x 255 h0 h1 (by omega) (by omega)]
  have h : x.toNat &&& (255 : Int).toNat ≤ 255 := Nat.and_le_right
  rw [IntWalk.wrap64_in _ (by omega)]
  omega

set_option maxHeartbeats 1000000 in
theorem s_next {A : Option Addr} {n c g q B : Nat} {s : Int} {xs : List Int} {w : World} (hb : SrcAt w g A n c q s) (h : Reads w B 1 A n (xs.map (Value.int .u8))) (hB : B ≤ g) (hx : ∀ a ∈ xs, (Lit.int .u8 a).wf = true)
    (hn : n ≤ 1048576) (hq : q ≤ 1048576) :
    Calls Try.prog 108 #[.pointer (some ⟨g, 0, none⟩)] w fun e w' => ∃ v s' : Int, e = .returned (.int .i64 v) ∧ 0 ≤ v ∧ v ≤ 255 ∧ SrcAt w' g A n c (q + 1) s' ∧ w.grownBy w' (some g) := by
  have c0 : w.cell? ⟨g, 0, none⟩ = some (.slice A n c) := hb.cell 0
  have c1 : w.cell? ⟨g, 1, none⟩ = some (.int .i64 (q : Int)) := hb.cell 1
  have c2 : w.cell? ⟨g, 2, none⟩ = some (.int .u64 s) := hb.cell 2
  have f1 : w.frozen? ⟨g, 1, none⟩ = false := hb.frozen 1
  have f2 : w.frozen? ⟨g, 2, none⟩ = false := hb.frozen 2
  have Hb := hide hb
  clear hb
  by_cases hlt : q < n
  · obtain ⟨ad, x, rfl, hab, hc, hx0, hx1⟩ := src_byte h hx hlt
    have h1 : (0 : Int) ≤ (q : Int) := by omega
    have h2 : (q : Int) < (n : Int) := by omega
    go_enter Try.func108, Try.ntmps108
    go_wp2
    go_quiet (fail)
    go_wp2
    go_quiet (fail)
    go_wp2
    go_quiet (fail)
    go_wp2
    go_ret
    refine ⟨_, IntKind.u64.wrap (IntKind.u64.wrap (IntKind.u64.wrap (s * 6364136223846793005) + x) + 1442695040888963407), rfl, hx0, hx1, ?_, ?_⟩
    · exact ((((Hb.out.drewN _).set_ 1 _).set_ 2 _).drewN _)
    · exact only_drewN (only_setCell (g := g) (only_setCell (g := g) (only_drewN (World.grownBy.refl _ _) _) (.inl rfl) _) (.inl rfl) _) _
  · have h2 : ¬ (q : Int) < (n : Int) := by omega
    go_enter Try.func108, Try.ntmps108
    go_wp2
    go_quiet (fail)
    go_wp2
    go_quiet (fail)
    go_wp2
    obtain ⟨v1, v2⟩ := low_byte (IntKind.u64.wrap (IntKind.u64.wrap (IntKind.u64.wrap (s * 6364136223846793005)) + 1442695040888963407) / 1099511627776) (Int.ediv_nonneg (u64_range _).1 (by omega)) (by have := u64_range (IntKind.u64.wrap (IntKind.u64.wrap (s * 6364136223846793005)) + 1442695040888963407); omega)
    go_ret
    refine ⟨_, IntKind.u64.wrap (IntKind.u64.wrap (IntKind.u64.wrap (s * 6364136223846793005)) + 1442695040888963407), rfl, v1, v2, ?_, ?_⟩
    · exact ((((Hb.out.drewN _).set_ 1 _).set_ 2 _).drewN _)
    · exact only_drewN (only_setCell (g := g) (only_setCell (g := g) (only_drewN (World.grownBy.refl _ _) _) (.inl rfl) _) (.inl rfl) _) _

theorem only_trans {a b c : World} {row : Option Nat} (h : a.grownBy b row) (k : b.grownBy c row) : a.grownBy c row :=
  ⟨k.os.trans h.os, k.tape.trans h.tape, k.output.trans h.output, Nat.le_trans h.size k.size, fun i hi hne => (k.block i (Nat.lt_of_lt_of_le hi h.size) hne).trans (h.block i hi hne)⟩
theorem only_below {a b c : World} {row : Option Nat} {B : Nat} (h : a.grownBy b row) (k : Below B b c) (hB : a.heap.size ≤ B) : a.grownBy c row :=
  ⟨k.os.trans h.os, k.tape.trans h.tape, k.output.trans h.output, Nat.le_trans h.size k.size, fun i hi hne => (k.block i (by omega)).trans (h.block i hi hne)⟩
theorem snoc_fl {w : World} {b : Nat} {t : TypeId} {v : Value} {k z : Nat} {zs : List Nat} (h : w.ownsRow b t 1 v k (fl .f32 zs ++ [.float .f32 z])) : w.ownsRow b t 1 v k (fl .f32 (zs ++ [z])) := by
  rw [fl, List.map_append]; exact h
theorem below_new {w c : World} {o : Obj} (h : (w.alloc o).grownBy c (some w.heap.size)) : Below w.heap.size w c :=
  ((Below.refl _ _).alloc (Nat.le_refl _) o).grown h (by simp) (fun k hk => by injection hk with hk; omega)
theorem SrcAt.apart {w : World} {g : Nat} {A : Option Addr} {n c q : Nat} {s : Int} (h : SrcAt w g A n c q s) : g < w.heap.size := h.lt
set_option maxHeartbeats 1000000 in
theorem s_pick {A : Option Addr} {n c g q B : Nat} {s m : Int} {xs : List Int} {w : World} (hb : SrcAt w g A n c q s) (h : Reads w B 1 A n (xs.map (Value.int .u8))) (hB : B ≤ g) (hx : ∀ a ∈ xs, (Lit.int .u8 a).wf = true)
    (hn : n ≤ 1048576) (hq : q ≤ 1048576) (hm : 1 < m) (hm2 : m ≤ 200) :
    Calls Try.prog 62 #[.pointer (some ⟨g, 0, none⟩), .int .i64 m] w fun e w' => ∃ v s' : Int, e = .returned (.int .i64 v) ∧ 0 ≤ v ∧ v < m ∧ SrcAt w' g A n c (q + 1) s' ∧ w.grownBy w' (some g) := by
  go_enter Try.func62, Try.ntmps62
  go_wp2_with (go_at_call 108; refine (s_next hb h hB hx hn hq).mono ?_; rintro e w' ⟨v, s', rfl, v1, v2, hb', hg⟩)
  go_ret
  refine ⟨_, s', rfl, ?_, ?_, hb', hg⟩
  · exact Int.emod_nonneg _ (by omega)
  · exact Int.emod_lt_of_pos _ (by omega)

/-- The small numbers: quarters from -4 to 4. -/
def qF (k : Nat) : Nat := fb .quo .f32 (floatOfInt .f32 ((k : Int) - 16)) 1082130432
theorem qF_num : ∀ k : Nat, k < 33 → isNan .f32 (qF k) = false ∧ fin .f32 (qF k) = true := by decide +kernel
theorem flR_num {op : BinOp} {k : FloatKind} {x y : Nat} (h : isNan k (fb op k x y) = false) (w : World) : flR op k x y w = fb op k x y := by
  have h1 := cn_flR op k x y w
  rw [← cn_num h] at h1
  exact (eq_of_cn h1.symm h).symm

theorem flN_num {op : BinOp} {k : FloatKind} {x y : Nat} (h : isNan k (fb op k x y) = false) : flN op k x y = 0 := by
  unfold flN
  cases hf : floatBits op k x y with
  | some r => rfl
  | none =>
    unfold fb at h
    rw [hf, Option.getD_none, cn_nan (isNan_nanOf k), isNan_nanOf] at h
    cases h
theorem own_far {w : World} {base g : Nat} {e : TypeId} {size n : Nat} {v : Value} {xs : List Value} (h : w.ownsRow base e size v n xs) (hg : g < base) : v.ownBlock = none ∨ v.ownBlock ≠ some g := by
  cases hv : v.ownBlock with
  | none => exact .inl rfl
  | some k =>
    refine .inr (fun he => ?_)
    injection he with he
    have := (h.lt k hv).1
    omega

/-- Each number of a list is one of m told ones. -/
def Of (F : Nat → Nat) (m : Nat) (zs : List Nat) : Prop := ∀ z ∈ zs, ∃ k, k < m ∧ z = F k

set_option maxHeartbeats 2000000 in
theorem s_l07DrawOk {A : Option Addr} {n c g B N : Nat} {s : Int} {xs : List Int} {w : World} (hb : SrcAt w g A n c 0 s) (h : Reads w B 1 A n (xs.map (Value.int .u8))) (hB : B ≤ g) (hx : ∀ a ∈ xs, (Lit.int .u8 a).wf = true)
    (hn : n ≤ 1048576) (hN : N ≤ 1000) :
    Calls Try.prog 77 #[.pointer (some ⟨g, 0, none⟩), .int .i64 (N : Int)] w fun e w' => ∃ v zs, e = .returned v ∧ w'.ownsRow w.heap.size 27 1 v N (fl .f32 zs) ∧ Hid (Of qF 33 zs) ∧ w.grownBy w' (some g) := by
  have hgs := hb.lt
  go_enter Try.func77, Try.ntmps77
  go_wp2
  go_loopw [1, 5] (fun i v wr => ∃ (k : Nat) (zs : List Nat) (s' : Int), k ≤ N ∧ i = .int .i64 ((N : Int) - (k : Int)) ∧ Hid (Of qF 33 zs) ∧ SrcAt wr g A n c k s' ∧ wr.ownsRow w.heap.size 27 1 v k (fl .f32 zs) ∧ w.grownBy wr (some g)) (fun i _ _ => (intOf i).toNat)
  case atStart => exact ⟨0, [], s, Nat.zero_le _, by simp, hide (fun z hz => by cases hz), by exact hb.alloc _, own_emp rfl (Nat.le_refl _), only_alloc (World.grownBy.refl _ _) _⟩
  case round =>
    obtain ⟨k, zs, s', hk, rfl, hzs, hbk, hown, hgr⟩ := hrel
    have Hown := hide hown
    have Hbk := hide hbk
    have hsz := hgr.size
    clear hown hbk
    by_cases hlt : k < N
    · have hpos : (0 : Int) < (N : Int) - (k : Int) := by omega
      have hwb : w.heap.size ≤ wr.heap.size := hsz
      go_wp2_with (first
        | (go_at_call 62; refine (s_pick Hbk.out (h.grown hgr (by omega) (fun g' hg' => by injection hg' with hg'; omega)) hB hx hn (by omega) (by omega) (by omega)).mono ?_; rintro e w1 ⟨v, s1, rfl, v1, v2, hb1, hg1⟩; obtain ⟨vk, rfl⟩ := Int.eq_ofNat_of_zero_le v1; have hv := qF_num vk (by omega); have hq : ∀ W, flR .quo .f32 (floatOfInt .f32 ((vk : Int) - 16)) 1082130432 W = qF vk := flR_num hv.1; have hq0 : flN .quo .f32 (floatOfInt .f32 ((vk : Int) - 16)) 1082130432 = 0 := flN_num hv.1; have Hown1 := hide (Hown.out.kept hg1 (own_far Hown.out hgs)); have hsz1 : w.heap.size ≤ w1.heap.size := Nat.le_trans hsz hg1.size)
        | (at_builtin; refine wpList_append1 rfl (.tmp 11) (.tmp 17) 36 rfl w.heap.size 27 (.float .f32 0) _ 4 info_f32 Try.underlying36 rfl rfl _ _ _ rfl Hown1.out rfl rfl (by omega) (by omega) hsz1 ?_))
      intro v' w' hown' hb'
      clear hq hq0
      have HT := hide (snoc_fl hown')
      have Hb2 : Hid (SrcAt w' g A n c (k + 1) s1) := hide (Blk.below hb1 hb' hgs)
      have Hg2 : Hid (w.grownBy w' (some g)) := hide (only_below (only_trans hgr hg1) hb' (Nat.le_refl _))
      clear hown' hb' hb1
      go_wp2
      go_roundw
      case rel => exact ⟨k + 1, zs ++ [qF vk], s1, by omega, by go_num, hide (fun z hz => by
          rcases List.mem_append.1 hz with h1 | h1
          · exact hzs.out z h1
          · rw [List.mem_singleton.1 h1]; exact ⟨vk, by omega, rfl⟩), Hb2.out, HT.out, Hg2.out⟩
      case measure => simp [intOf]; omega
    · obtain rfl : k = N := by omega
      go_wp2
      go_ret
      exact ⟨_, zs, rfl, Hown.out, hzs, hgr⟩

/-- 'B10List' draws numbers that are told. -/
theorem s_B10List {A : Option Addr} {n c N : Nat} {xs : List Int} {w : World} (h : Reads w w.heap.size 1 A n (xs.map (Value.int .u8))) (hx : ∀ a ∈ xs, (Lit.int .u8 a).wf = true)
    (hn : n ≤ 1048576) (hN : N ≤ 1000) :
    Calls Try.prog 26 #[.slice A n c, .int .i64 (N : Int)] w fun e w' => ∃ v zs, e = .returned v ∧ w'.ownsRow w.heap.size 27 1 v N (fl .f32 zs) ∧ Hid (Of qF 33 zs) ∧ Below w.heap.size w w' := by
  go_enter Try.func26, Try.ntmps26
  go_wp2_with (first
    | (go_at_call 61; refine s_l00From.mono ?_; rintro e w' ⟨rfl, rfl⟩)
    | (go_at_call 77; refine (s_l07DrawOk (g := w.heap.size) (s := 0) (B := w.heap.size) (xs := xs) (Blk.new _ _ _) (h.alloc (Nat.le_refl _) _) (Nat.le_refl _) hx hn hN).mono ?_; rintro e w1 ⟨v, zs, rfl, ho, hz, hg⟩))
  go_ret
  exact ⟨_, zs, rfl, own_up ho (by simp), hz, below_new hg⟩
end Go.Proofs.Yteabfkgbakoljaa
