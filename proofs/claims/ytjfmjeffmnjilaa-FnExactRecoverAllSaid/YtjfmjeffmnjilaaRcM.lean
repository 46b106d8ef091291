/-
  Marks of a list of what is saved: written, and found again.
-/
import Derived.Test.YtjfmjeffmnjilaaMark
import Derived.Lib.ItoaNum
import Derived.Laws.IdiomStrings
import Derived.Laws.Concat
import Derived.WalkLawsBesides
import Derived.IntWalk
import Derived.Test.YtjfmjeffmnjilaaRcI
import Derived.Test.YtjfmjeffmnjilaaBelW
namespace Go.Proofs.Ytjfmjeffmnjilaa
open Go.RowKit Mem
set_option linter.unusedVariables false
set_option maxRecDepth 100000

theorem decDigits_split (u : Nat) (h : ¬ u < 10) : Lib.decDigits u = Lib.decDigits (u / 10) ++ [UInt8.ofNat (48 + u % 10)] := by rw [Lib.decDigits, dif_neg h]
theorem decDigits_one (u : Nat) (h : u < 10) : Lib.decDigits u = [UInt8.ofNat (48 + u)] := by rw [Lib.decDigits, dif_pos h]
theorem dec_len (u : Nat) : (Lib.decDigits u).length = Lib.nDigits u := by rw [Lib.decDigits_eq]; simp
theorem nDigits_le {u : Nat} (h : u ≤ 9223372036854775808) : Lib.nDigits u ≤ 19 := by
  rcases Nat.lt_or_ge 19 (Lib.nDigits u) with h1 | h1
  · exfalso
    have h3 : 10 ^ 18 ≤ u ∨ u < 10 ^ 18 := by omega
    rcases h3 with h3 | h3
    · have := Lib.nDigits_unique 18 u h3 (by omega)
      omega
    · have h4 : ∀ k, ∀ v, v < 10 ^ (k + 1) → Lib.nDigits v ≤ k + 1 := by
        intro k
        induction k with
        | zero => intro v hv; rw [Lib.nDigits_small (by omega)]; omega
        | succ k ih =>
          intro v hv
          by_cases hs : v < 10
          · rw [Lib.nDigits_small hs]; omega
          · rw [Lib.nDigits_big hs]
            have := ih (v / 10) (by rw [Nat.pow_succ] at hv; omega)
            omega
      have := h4 17 u h3
      omega
  · exact h1
/-- The bytes of a row. -/
def Row8 (w : World) (g : Nat) (L : List UInt8) : Prop := ∀ j (hj : j < L.length), w.cell? ⟨g, j, none⟩ = some (.int .u8 (L[j].toNat : Int))
theorem dig_val (k : Nat) (h : k < 10) : (((UInt8.ofNat (48 + k)).toNat : Nat) : Int) = 48 + (k : Int) := by
  have : (UInt8.ofNat (48 + k)).toNat = 48 + k := by simp [UInt8.toNat_ofNat']; omega
  rw [this]; push_cast; rfl
theorem row8_one {w : World} {g : Nat} {b : UInt8} {v : Int} (h : w.cell? ⟨g, 0, none⟩ = some (.int .u8 v)) (hv : v = (b.toNat : Int)) : Row8 w g [b] := by
  intro j hj
  obtain rfl : j = 0 := by simp at hj; exact hj
  rw [h, hv]; rfl
theorem add_zero' (g j : Nat) : (⟨g, 0, none⟩ : Addr).add j = ⟨g, j, none⟩ := by
  by_cases h0 : j = 0
  · subst h0; simp [Addr.add]
  · simp [Addr.add, h0]
theorem conv_row {w : World} {g m cap : Nat} {L : List UInt8} (h : Row8 w g L) (hm : L.length = m) : (convert 51 9 (.slice (some ⟨g, 0, none⟩) m cap)).run Try.prog w = .ok (.string ⟨L.toArray⟩) w := by
  subst hm
  exact run_convert_bytes_back w _ _ 5 _ cap L Try.underlying51 Try.underlying5 Try.underlying9 (fun j hj => by rw [add_zero']; exact h j hj)
/-- The mark of a place as a text. -/
def mtx (k : Nat) : ByteArray := ⟨(109 :: Lib.decDigits k).toArray⟩
theorem mtx_size {k : Nat} (h : k ≤ 9223372036854775808) : (mtx k).size ≤ 20 := by
  show (109 :: Lib.decDigits k).toArray.size ≤ 20
  have h1 := nDigits_le h
  rw [List.size_toArray, List.length_cons, dec_len]; omega
def MtAt (K r : Nat) (L : List UInt8) : Prop := (r ≠ 0 → Lib.decDigits K = Lib.decDigits r ++ L) ∧ (r = 0 → Lib.decDigits K = L) ∧ L.length ≤ 20
theorem mt_step {K r : Nat} {L : List UInt8} (hK : K ≤ 9223372036854775807) (h : MtAt K r L) (hr : r ≠ 0) : MtAt K (r / 10) (UInt8.ofNat (48 + r % 10) :: L) := by
  have h1 := h.1 hr
  have hlen := congrArg List.length h1
  have hd := nDigits_le (u := K) (by omega)
  rw [List.length_append, dec_len, dec_len] at hlen
  have hp := Lib.nDigits_pos r
  refine ⟨fun h0 => ?_, fun h0 => ?_, by simp; omega⟩
  · rw [h1, decDigits_split r (by omega)]; simp
  · rw [h1, decDigits_one r (by omega), Nat.mod_eq_of_lt (by omega)]; rfl
theorem ba_extM {a b : ByteArray} (h : a.data.toList = b.data.toList) : a = b := by
  cases a; cases b
  congr 1
  exact Array.toList_inj.1 h
set_option maxHeartbeats 1000000 in
theorem l_markText {K : Nat} {w : World} (hK : K ≤ 1099511627776) : Calls Try.prog 68 #[.int .i64 (K : Int)] w fun e w' => e = .returned (.string (mtx K)) ∧ Below w.heap.size w w' := by
  rcases Nat.eq_zero_or_pos K with h0 | h0
  · subst h0
    go_enter Try.func68, Try.ntmps68
    go_wp2
    go_ret
    exact ⟨by unfold mtx; rw [decDigits_one 0 (by omega)]; rfl, Below.refl _ _⟩
  · have i1 : ¬ (K : Int) ≤ 0 := by omega
    go_enter Try.func68, Try.ntmps68
    go_wp2
    go_loopw [0, 3] (fun kv out wr => ∃ (r : Nat) (L : List UInt8), kv = .int .i64 (r : Int) ∧ out = .string ⟨L.toArray⟩ ∧ r ≤ 1099511627776 ∧ Hid (MtAt K r L) ∧ Below w.heap.size w wr) (fun kv _ _ => (intOf kv).toNat)
    case atStart => exact ⟨K, [], rfl, rfl, hK, hide ⟨fun _ => by simp, fun h => absurd h (by omega), by simp⟩, Below.refl _ _⟩
    case round =>
      obtain ⟨r, L, rfl, rfl, hr, hm, hbel⟩ := hrel
      have hL := hm.out.2.2
      by_cases hr0 : r = 0
      · subst hr0
        have hs := fun w => run_string_add_sum (P := Try.prog) w ⟨#[109]⟩ ⟨L.toArray⟩ (by show (1 : Nat) + L.toArray.size ≤ _; rw [List.size_toArray]; omega)
        have HE : Hid (mtx K = ⟨#[109]⟩ ++ ⟨L.toArray⟩) := hide (by
          unfold mtx; rw [hm.out.2.1 rfl]; rfl)
        go_wp2
        go_ret
        exact ⟨by rw [HE.out]; rfl, hbel⟩
      · have HS := hide (mt_step (by omega) hm.out hr0)
        have hr1 : (0 : Int) < r := by omega
        obtain ⟨b, hb, hbv⟩ : ∃ b : UInt8, b = UInt8.ofNat (48 + r % 10) ∧ (48 + (r : Int) % 10) = (b.toNat : Int) := ⟨_, rfl, by rw [dig_val _ (by omega)]; omega⟩
        rw [← hb] at HS
        have hcv := conv_row (w := wr.alloc (.cells #[.int .u8 (48 + (r : Int) % 10)] 5)) (g := wr.heap.size) (m := 1) (cap := 1) (L := [b]) (row8_one (v := 48 + (r : Int) % 10) (by simp) hbv) rfl
        have hs := fun w => run_string_add_sum (P := Try.prog) w ⟨[b].toArray⟩ ⟨L.toArray⟩ (by show (1 : Nat) + L.toArray.size ≤ _; rw [List.size_toArray]; omega)
        have HE : Hid ((⟨[b].toArray⟩ : ByteArray) ++ ⟨L.toArray⟩ = ⟨(b :: L).toArray⟩) := hide (by apply ba_extM; simp)
        clear hb hbv
        go_wp2
        go_roundw
        case rel => exact ⟨r / 10, b :: L, by go_num, by rw [← HE.out], by omega, HS, hbel.alloc hbel.size _⟩
        case measure => (simp [intOf]; try omega)
end Go.Proofs.Ytjfmjeffmnjilaa
namespace Go.Proofs.Ytjfmjeffmnjilaa
open Go.RowKit Fl Mem
set_option linter.unusedVariables false
set_option maxRecDepth 100000

theorem own_setS {w : World} {base : Nat} {e : TypeId} {g n c size : Nat} {xs : List Value} (h : w.ownsRow base e size (.slice (some ⟨g, 0, none⟩) n c) n xs) {i : Nat} (hi : i < n * size) (u : Value) :
    (w.setCell ⟨g, i, none⟩ u).ownsRow base e size (.slice (some ⟨g, 0, none⟩) n c) n (xs.set i u) := by
  obtain ⟨h1, h2⟩ := h
  refine ⟨by simpa using h1, ?_⟩
  rcases h2 with ⟨h2, _⟩ | ⟨g', cap, cur, hv, hb, hg, hnc, hcm, hcs, htake⟩
  · cases h2
  · injection hv with hv1 _ hv2
    injection hv1 with hv1
    injection hv1 with hv1
    subst hv1
    subst hv2
    refine .inr ⟨g, c, cur.setIfInBounds i u, rfl, hb, ?_, hnc, hcm, by simpa using hcs, ?_⟩
    · have := Blk.set_ (w := w) (g := g) (t := e) (cs := cur) hg i u
      exact this
    · rw [← htake, Array.toList_setIfInBounds, List.take_set]
theorem own_cellS {w : World} {base : Nat} {e : TypeId} {g n c size : Nat} {xs : List Value} (h : w.ownsRow base e size (.slice (some ⟨g, 0, none⟩) n c) n xs) {i : Nat} {u : Value} (hu : xs[i]? = some u) :
    w.cell? ⟨g, i, none⟩ = some u ∧ w.frozen? ⟨g, i, none⟩ = false := by
  refine ⟨by have := h.cells (g := g) rfl i u hu; simpa [Addr.add_lit] using this, ?_⟩
  rcases h.2 with ⟨h2, _⟩ | ⟨g', cap, cur, hv, hb, hg, _⟩
  · cases h2
  · injection hv with hv1 _ _
    injection hv1 with hv1
    injection hv1 with hv1
    subst hv1
    exact Blk.frozen (w := w) (t := e) (cs := cur) hg i
/-- The lists of one lie in blocks that were made here. -/
structure SvRw (w : World) (b : Nat) (s : Sv) : Prop where
  paths : w.ownsRow b 2 1 (.slice s.PA s.pn s.pc) s.pn (il s.ps)
  sig : w.ownsRow b 63 1 (.slice s.SA s.sn s.sc) s.sn (fl .f32 s.xs)
theorem SvOwn.rw_ {w : World} {b : Nat} {s : Sv} (h : SvOwn w b s) : SvRw w b s := ⟨h.paths, h.sig⟩
theorem SvRw.below {w w' : World} {b : Nat} {s : Sv} (h : SvRw w b s) (hb : Below w.heap.size w w') : SvRw w' b s := ⟨own_below h.paths hb, own_below h.sig hb⟩
theorem SvRw.grownS {w w' : World} {b b' n : Nat} {s : Sv} {v : Value} {xs : List Value} (h : SvRw w b s) (ho : w.ownsRow b' 38 4 v n xs) (hg : w.grownBy w' v.ownBlock) : SvRw w' b s :=
  ⟨h.paths.kept hg (own_apart_ty h.paths ho (by decide)), h.sig.kept hg (own_apart_ty h.sig ho (by decide))⟩
theorem or_ne {a b : Option Nat} (h : ∀ g, b = some g → a ≠ some g) : a = none ∨ a ≠ b := by
  cases hb : a with
  | none => exact .inl rfl
  | some g => exact .inr (fun e => h g e.symm hb)
theorem SvRw.keptP {w w' : World} {b : Nat} {s t : Sv} (h : SvRw w b t) (hs : SvRw w b s) (hd : ∀ g, (Value.slice s.PA s.pn s.pc).ownBlock = some g → (Value.slice t.PA t.pn t.pc).ownBlock ≠ some g)
    (hg : w.grownBy w' (Value.slice s.PA s.pn s.pc).ownBlock) : SvRw w' b t := ⟨h.paths.kept hg (or_ne hd), h.sig.kept hg (own_apart_ty h.sig hs.paths (by decide))⟩
theorem SvRw.keptF {w w' : World} {b : Nat} {s t : Sv} (h : SvRw w b t) (hs : w.ownsRow b 63 1 (.slice s.SA s.sn s.sc) s.sn (fl .f32 s.xs)) (hd : ∀ g, (Value.slice s.SA s.sn s.sc).ownBlock = some g → (Value.slice t.SA t.sn t.sc).ownBlock ≠ some g)
    (hg : w.grownBy w' (Value.slice s.SA s.sn s.sc).ownBlock) : SvRw w' b t := ⟨h.paths.kept hg (own_apart_ty h.paths hs (by decide)), h.sig.kept hg (or_ne hd)⟩
/-- One that is marked from k on. -/
def mkSv (k : Nat) (s : Sv) : Sv := ⟨mtx k, (k : Int) + 1, s.PA, s.pn, s.pc, marksOf (fun z => z) (k + 2) s.pn, s.SA, s.sn, s.sc, marksOf (floatOfInt .f32) (k + 2 + s.pn) s.sn⟩
def mkE (k : Nat) (s : Sv) : Nat := k + 2 + s.pn + s.sn
def mkSvs : Nat → List Sv → List Sv
  | _, [] => []
  | k, s :: r => mkSv k s :: mkSvs (mkE k s) r
def mkN : Nat → List Sv → Nat
  | k, [] => k
  | k, s :: r => mkN (mkE k s) r
theorem mkSvs_snoc (k : Nat) (a : List Sv) (s : Sv) : mkSvs k (a ++ [s]) = mkSvs k a ++ [mkSv (mkN k a) s] := by
  induction a generalizing k with
  | nil => rfl
  | cons q r ih => simp only [List.cons_append, mkSvs, mkN, ih]
theorem mkN_snoc (k : Nat) (a : List Sv) (s : Sv) : mkN k (a ++ [s]) = mkE (mkN k a) s := by
  induction a generalizing k with
  | nil => rfl
  | cons q r ih => simp only [List.cons_append, mkN, ih]
theorem mkSvs_len (k : Nat) (a : List Sv) : (mkSvs k a).length = a.length := by
  induction a generalizing k with
  | nil => rfl
  | cons q r ih => simp only [mkSvs, List.length_cons, ih]
theorem mkN_le {a : List Sv} (h : ∀ s ∈ a, SvLe 1048576 s) (k : Nat) : mkN k a ≤ k + a.length * 2097154 := by
  induction a generalizing k with
  | nil => simp [mkN]
  | cons q r ih =>
    have h1 := ih (fun s hs => h s (List.mem_cons_of_mem _ hs)) (mkE k q)
    have h2 := h q (List.mem_cons_self ..)
    have := h2.pn
    have := h2.sn
    simp only [mkN, List.length_cons]
    unfold mkE at h1
    unfold mkE
    omega
theorem ap_mk {k : Nat} {a b : List Sv} (h : (a ++ b).Pairwise SvAp) : (mkSvs k a ++ b).Pairwise SvAp := by
  induction a generalizing k with
  | nil => exact h
  | cons q r ih =>
    rw [List.cons_append, List.pairwise_cons] at h
    simp only [mkSvs, List.cons_append]
    refine List.pairwise_cons.2 ⟨fun t ht => ?_, ih h.2⟩
    rcases List.mem_append.1 ht with ht | ht
    · have hx : ∀ (k : Nat) (l : List Sv), (∀ t ∈ l, SvAp q t) → ∀ t ∈ mkSvs k l, SvAp (mkSv 0 q) t := by
        intro k l
        induction l generalizing k with
        | nil => intro _ t ht; cases ht
        | cons x y ihy =>
          intro hl t ht
          simp only [mkSvs] at ht
          rcases List.mem_cons.1 ht with rfl | ht
          · have := hl x (List.mem_cons_self ..); exact ⟨this.paths, this.sig⟩
          · exact ihy _ (fun z hz => hl z (List.mem_cons_of_mem _ hz)) t ht
      have := hx _ r (fun t ht => h.1 t (List.mem_append_left _ ht)) t ht
      exact ⟨this.paths, this.sig⟩
    · have := h.1 t (List.mem_append_right _ ht); exact ⟨this.paths, this.sig⟩
theorem il_marks (k n : Nat) : il (marksOf (fun z => z) k n) = marksOf mkI k n := by
  unfold il marksOf
  rw [List.map_map]; rfl
theorem fl_marks (k n : Nat) : fl .f32 (marksOf (floatOfInt .f32) k n) = marksOf mkF k n := by
  unfold fl marksOf
  rw [List.map_map]; rfl
theorem svC_mark {ts r : List Sv} {z : Sv} {i k : Nat} (hi : ts.length = i) : ((svC (ts ++ z :: r)).set (i * 4) (.string (mtx k))).set (i * 4 + 1) (.int .i64 ((k : Int) + 1)) = svC (ts ++ mkSv k z :: r) := by
  subst hi
  rw [svC_append, svC_append]
  have e : ∀ (j : Nat) (l : List Value) (u : Value), (svC ts ++ l).set (ts.length * 4 + j) u = svC ts ++ l.set j u := fun j l u => by
    rw [List.set_append_right _ _ (by rw [svC_len]; omega), svC_len]
    congr 2
    omega
  have e0 := fun l u => e 0 l u
  simp only [Nat.add_zero] at e0
  rw [e0, e]
  rfl
set_option maxHeartbeats 4000000 in
theorem l_markSavedS {v : Value} {ss : List Sv} {base k : Nat} {w : World} (ho : w.ownsRow base 38 4 v ss.length (svC ss)) (hs : SvsOwn w base ss) (hle : ∀ s ∈ ss, SvLe 1048576 s) (hn : ss.length ≤ 8) (hb : base ≤ w.heap.size) (hk : k ≤ 1048576) :
    Calls Try.prog 34 #[v, .int .i64 (k : Int)] w fun e w' => e = .returned (.int .i64 (mkN k ss : Nat)) ∧ w'.ownsRow base 38 4 v ss.length (svC (mkSvs k ss)) ∧ (∀ s ∈ mkSvs k ss, SvRw w' base s) ∧ Below base w w' := by
  rcases Nat.eq_zero_or_pos ss.length with h0 | h0
  · obtain rfl : ss = [] := List.eq_nil_of_length_eq_zero h0
    obtain ⟨A, c, rfl⟩ := own_shape ho
    have HO := hide ho
    clear ho hs hle h0
    go_enter Try.func34, Try.ntmps34
    go_wp2
    go_loop [1, 5] (fun a i => a = .int .i64 k ∧ i = .int .i64 0) (fun _ _ => 0)
    case atStart => exact ⟨rfl, rfl⟩
    case round =>
      obtain ⟨rfl, rfl⟩ := hrel
      go_wp2
      go_ret
      exact ⟨rfl, HO.out, (fun s h => by cases h), Below.refl _ _⟩
  · obtain ⟨g, c, rfl⟩ := own_addr ho h0
    obtain ⟨n, hnn⟩ : ∃ n, ss.length = n := ⟨_, rfl⟩
    have Hn := hide hnn
    have HA := hide hs.apart
    have HLe := hide hle
    have Hg : base ≤ g ∧ g < w.heap.size := ho.lt g rfl
    have HO := hide ho
    have HS : Hid (∀ s ∈ mkSvs k [] ++ ss, SvRw w base s) := hide (fun s h => (hs.each s h).rw_)
    rw [hnn] at HO hn h0 ⊢
    clear hs hle ho hnn
    go_enter Try.func34, Try.ntmps34
    go_wp2
    go_loopw [1, 5] (fun a i wr => ∃ (pre post : List Sv) (q j : Nat), Hid (pre ++ post = ss) ∧ Hid (pre.length = j) ∧ Hid (mkN k pre = q) ∧ j ≤ n ∧ a = .int .i64 (q : Int) ∧ i = .int .i64 (j : Int) ∧ Hid (wr.ownsRow base 38 4 (.slice (some ⟨g, 0, none⟩) n c) n (svC (mkSvs k pre ++ post))) ∧ Hid (∀ s ∈ mkSvs k pre ++ post, SvRw wr base s) ∧ Below base w wr) (fun _ i _ => n - (intOf i).toNat)
    case atStart => exact ⟨[], ss, k, 0, hide rfl, hide rfl, hide rfl, Nat.zero_le _, rfl, rfl, HO, HS, Below.refl _ _⟩
    case round =>
      clear HO HS
      obtain ⟨pre, post, q, j, hss, hpre, hq, hj, rfl, rfl, HO, HS, bel⟩ := hrel
      by_cases hlt : j < n
      · obtain ⟨s, post, rfl⟩ : ∃ s r, post = s :: r := by
          cases post with
          | nil => exfalso; have h1 := hss.out; have h2 := hpre.out; have h3 := Hn.out; rw [List.append_nil] at h1; rw [h1] at h2; omega
          | cons s r => exact ⟨s, r, rfl⟩
        have jI : (j : Int) < (n : Int) := by omega
        have hmem : s ∈ ss := by rw [← hss.out]; simp
        have hsl := HLe.out s hmem
        have l1 := hsl.pn
        have l2 := hsl.sn
        have hq0 := mkN_le (a := pre) (fun x hx => HLe.out x (by rw [← hss.out]; exact List.mem_append_left _ hx)) k
        rw [hq.out, hpre.out] at hq0
        have hqb : q ≤ 1048576 + 8 * 2097154 := by omega
        have hts : (mkSvs k pre).length = j := by rw [mkSvs_len, hpre.out]
        have hap := (List.pairwise_append.1 (ap_mk (k := k) (hss.out.symm ▸ HA.out : (pre ++ s :: post).Pairwise SvAp)))
        have hap2 := (List.pairwise_cons.1 hap.2.1).1
        have HP := hide hap
        have HP2 := hide hap2
        have Hts := hide hts
        clear hmem hsl hap hap2 hts hq0
        go_wp2_with fail
        refine (l_markText (by omega)).mono ?_
        rintro e w1 ⟨rfl, hb1⟩
        have HO1 := hide (own_below HO.out hb1)
        have HS1 : Hid (∀ s' ∈ mkSvs k pre ++ s :: post, SvRw w1 base s') := hide (fun x hx => (HS.out x hx).below hb1)
        have bel1 := bel.trans (hb1.mono (Nat.le_trans hb bel.size))
        clear HO HS bel hb1
        obtain ⟨d0, d1, d2, d3⟩ := svC_at (xs := mkSvs k pre ++ s :: post) (k := j) (s := s) (by rw [List.getElem?_append_right (by rw [Hts.out]; exact Nat.le_refl _), Hts.out, Nat.sub_self]; rfl)
        obtain ⟨e0, f0⟩ := own_cellS HO1.out d0
        obtain ⟨e1, f1⟩ := own_cellS HO1.out d1
        obtain ⟨e2, f2⟩ := own_cellS HO1.out d2
        obtain ⟨e3, f3⟩ := own_cellS HO1.out d3
        have HO2 : Hid (((w1.setCell ⟨g, j * 4, none⟩ (.string (mtx q))).setCell ⟨g, j * 4 + 1, none⟩ (.int .i64 ((q : Int) + 1))).ownsRow base 38 4 (.slice (some ⟨g, 0, none⟩) n c) n (svC (mkSvs k pre ++ mkSv q s :: post))) := hide (by
          rw [← svC_mark Hts.out]
          exact own_setS (own_setS HO1.out (by omega) _) (by omega) _)
        have HS2 : Hid (∀ x ∈ mkSvs k pre ++ s :: post, SvRw ((w1.setCell ⟨g, j * 4, none⟩ (.string (mtx q))).setCell ⟨g, j * 4 + 1, none⟩ (.int .i64 ((q : Int) + 1))) base x) := hide (fun x hx => ((HS1.out x hx).grownS HO1.out (grownBy_set w1 ⟨g, j * 4, none⟩ (.string (mtx q)))).grownS (own_setS HO1.out (i := j * 4) (by omega) (.string (mtx q))) (grownBy_set _ ⟨g, j * 4 + 1, none⟩ _))
        have bel2 := (bel1.setCell (p := ⟨g, j * 4, none⟩) Hg.1 (.string (mtx q))).setCell (p := ⟨g, j * 4 + 1, none⟩) Hg.1 (.int .i64 ((q : Int) + 1))
        obtain ⟨_, _, t2, t3⟩ := svC_at (xs := mkSvs k pre ++ mkSv q s :: post) (k := j) (s := mkSv q s) (by rw [List.getElem?_append_right (by rw [Hts.out]; exact Nat.le_refl _), Hts.out, Nat.sub_self]; rfl)
        have T2 := hide t2
        have T3 := hide t3
        have c2 : ((w1.setCell ⟨g, j * 4, none⟩ (.string (mtx q))).setCell ⟨g, j * 4 + 1, none⟩ (.int .i64 ((q : Int) + 1))).cell? ⟨g, j * 4 + 2, none⟩ = some (.slice s.PA s.pn s.pc) := (own_cellS HO2.out t2).1
        have hms : s ∈ mkSvs k pre ++ s :: post := by simp
        have Hs2 := hide (HS2.out s hms)
        have hzz : base ≤ ((w1.setCell ⟨g, j * 4, none⟩ (.string (mtx q))).setCell ⟨g, j * 4 + 1, none⟩ (.int .i64 ((q : Int) + 1))).heap.size := by have := bel2.size; omega
        clear d0 d1 d2 d3 t2 t3 HO1 HS1 bel1 hms
        go_wp2_with fail
        refine (markI Hs2.out.paths (by omega) (by omega)).mono ?_
        rintro e w3 ⟨rfl, hP, hgP⟩
        have HO3 := hide (HO2.out.kept hgP (own_apart_ty HO2.out Hs2.out.paths (by decide)))
        have HS3 : Hid (∀ x ∈ mkSvs k pre ++ post, SvRw w3 base x) := hide (fun x hx => by
          rcases List.mem_append.1 hx with hx | hx
          · exact (HS2.out x (List.mem_append_left _ hx)).keptP Hs2.out (fun g' h1 h2 => (HP.out.2.2 x hx s (List.mem_cons_self ..)).paths g' h2 h1) hgP
          · exact (HS2.out x (List.mem_append_right _ (List.mem_cons_of_mem _ hx))).keptP Hs2.out ((HP2.out x hx).paths) hgP)
        have HF3 := hide (Hs2.out.sig.kept hgP (own_apart_ty Hs2.out.sig Hs2.out.paths (by decide)))
        have HPm := hide hP
        have bel3 := bel2.grown hgP hzz (fun g' h' => (Hs2.out.paths.lt g' h').1)
        have hz3 : base ≤ w3.heap.size := by have := bel3.size; omega
        have c3 : w3.cell? ⟨g, j * 4 + 3, none⟩ = some (.slice s.SA s.sn s.sc) := (own_cellS HO3.out T3.out).1
        have hd : Hid (((q : Int) + 1 + 1).toNat = q + 2) := hide (by omega)
        clear hP hgP HO2 HS2 bel2 hzz Hs2 e0 e1 e2 e3 f0 f1 f2 f3 c2 T2
        go_wp2_with fail
        refine (markF HF3.out (by omega) (by omega)).mono ?_
        rintro e w4 ⟨rfl, hF, hgF⟩
        have HO4 := hide (HO3.out.kept hgF (own_apart_ty HO3.out HF3.out (by decide)))
        have HP4 := hide (HPm.out.kept hgF (own_apart_ty HPm.out HF3.out (by decide)))
        have HS4 : Hid (∀ x ∈ mkSvs k (pre ++ [s]) ++ post, SvRw w4 base x) := hide (fun x hx => by
          rw [mkSvs_snoc, hq.out, List.append_assoc] at hx
          rcases List.mem_append.1 hx with hx | hx
          · exact (HS3.out x (List.mem_append_left _ hx)).keptF HF3.out (fun g' h1 h2 => (HP.out.2.2 x hx s (List.mem_cons_self ..)).sig g' h2 h1) hgF
          · rcases List.mem_append.1 hx with hx | hx
            · rw [List.mem_singleton] at hx
              subst hx
              refine ⟨?_, ?_⟩
              · show w4.ownsRow base 2 1 (.slice s.PA s.pn s.pc) s.pn (il (marksOf (fun z => z) (q + 2) s.pn))
                rw [il_marks, ← hd.out]; exact HP4.out
              · show w4.ownsRow base 63 1 (.slice s.SA s.sn s.sc) s.sn (fl .f32 (marksOf (floatOfInt .f32) (q + 2 + s.pn) s.sn))
                rw [fl_marks, show q + 2 + s.pn = ((q : Int) + 1 + 1 + (s.pn : Int)).toNat by omega]; exact hF
            · exact (HS3.out x (List.mem_append_right _ hx)).keptF HF3.out ((HP2.out x hx).sig) hgF)
        have bel4 := bel3.grown hgF hz3 (fun g' h' => (HF3.out.lt g' h').1)
        have HO5 : Hid (w4.ownsRow base 38 4 (.slice (some ⟨g, 0, none⟩) n c) n (svC (mkSvs k (pre ++ [s]) ++ post))) := hide (by
          rw [mkSvs_snoc, hq.out, List.append_assoc]; exact HO4.out)
        have Hq2 : Hid (mkN k (pre ++ [s]) = q + 2 + s.pn + s.sn) := hide (by rw [mkN_snoc, hq.out]; rfl)
        have Hss2 : Hid ((pre ++ [s]) ++ post = ss) := hide (by rw [← hss.out, List.append_assoc]; rfl)
        have Hpre2 : Hid ((pre ++ [s]).length = j + 1) := hide (by rw [List.length_append, hpre.out]; rfl)
        clear hF hgF HO3 HS3 HF3 HPm bel3 hz3 c3 HO4 HP4 T3 HP HP2 Hts
        go_wp2
        go_roundw
        case rel => exact ⟨pre ++ [s], post, q + 2 + s.pn + s.sn, j + 1, Hss2, Hpre2, Hq2, by omega, by first | go_num | (congr 1; omega), by go_num, HO5, HS4, bel4⟩
        case measure => (simp [intOf]; omega)
      · obtain rfl : j = n := by omega
        have jI : ¬ (j : Int) < (j : Int) := by omega
        obtain rfl : post = [] := by
          have h1 := hss.out; have h2 := hpre.out; have h3 := Hn.out
          rw [← h1, List.length_append, h2] at h3
          exact List.eq_nil_of_length_eq_zero (by omega)
        have hpe : pre = ss := by have := hss.out; rwa [List.append_nil] at this
        subst hpe
        have HO5 : Hid (wr.ownsRow base 38 4 (.slice (some ⟨g, 0, none⟩) j c) j (svC (mkSvs k pre))) := hide (by have := HO.out; rwa [List.append_nil] at this)
        have HS5 : Hid (∀ x ∈ mkSvs k pre, SvRw wr base x) := hide (by have := HS.out; rwa [List.append_nil] at this)
        clear HO HS
        go_wp2
        go_ret
        exact ⟨by rw [hq.out]; rfl, HO5.out, HS5.out, bel⟩
theorem svC_get {w : World} {B n k : Nat} {A : Option Addr} {ss : List Sv} (h : Reads w B 4 A n (svC ss)) (hl : ss.length = n) (hk : k < n) :
    ∃ ad s, A = some ad ∧ ad.block < B ∧ ss[k]? = some s ∧ w.cell? (ad.add (k * 4)) = some (.string s.nm) ∧ w.cell? ⟨(ad.add (k * 4)).block, (ad.add (k * 4)).off + 1, none⟩ = some (.int .i64 s.parts) ∧
      w.cell? ⟨(ad.add (k * 4)).block, (ad.add (k * 4)).off + 2, none⟩ = some (.slice s.PA s.pn s.pc) ∧ w.cell? ⟨(ad.add (k * 4)).block, (ad.add (k * 4)).off + 3, none⟩ = some (.slice s.SA s.sn s.sc) := by
  obtain ⟨ad, e, hb, hc⟩ := h.2 (by omega)
  have hx : ss[k]? = some ss[k] := List.getElem?_eq_getElem (by omega)
  obtain ⟨h1, h2, h3, h4⟩ := svC_at hx
  have hf : ∀ j u, 1 ≤ j → (svC ss)[k * 4 + j]? = some u → w.cell? ⟨(ad.add (k * 4)).block, (ad.add (k * 4)).off + j, none⟩ = some u := fun j u hj hu => by
    have h9 := hc _ _ hu
    rw [← add_of_add] at h9
    have : (ad.add (k * 4)).add j = ⟨(ad.add (k * 4)).block, (ad.add (k * 4)).off + j, none⟩ := by
      generalize ad.add (k * 4) = q
      unfold Addr.add
      rw [if_neg (by omega)]
    rwa [this] at h9
  exact ⟨ad, ss[k], e, hb, hx, hc _ _ h1, hf 1 _ (by omega) h2, hf 2 _ (by omega) h3, hf 3 _ (by omega) h4⟩
theorem mkSvs_append (k : Nat) (a b : List Sv) : mkSvs k (a ++ b) = mkSvs k a ++ mkSvs (mkN k a) b := by
  induction a generalizing k with
  | nil => rfl
  | cons q r ih => simp only [List.cons_append, mkSvs, mkN, ih]
theorem add_block (ad : Addr) (i : Nat) : (ad.add i).block = ad.block := by unfold Addr.add; split <;> rfl
set_option maxHeartbeats 4000000 in
theorem l_heldSavedS {A : Option Addr} {n c B k : Nat} {ss : List Sv} {w : World} (hr : Reads w B 4 A n (svC (mkSvs k ss))) (hs : ∀ s ∈ mkSvs k ss, Reads w B 1 s.PA s.pn (il s.ps) ∧ Reads w B 1 s.SA s.sn (fl .f32 s.xs)) (hB : B ≤ w.heap.size) (hl : ss.length = n) (hle : ∀ s ∈ ss, SvLe 1048576 s) (hn : n ≤ 8) (hk : k ≤ 1048576) :
    Calls Try.prog 35 #[.slice A n c, .int .i64 (k : Int)] w fun e w' => e = .returned (.int .i64 (mkN k ss : Nat)) ∧ Below w.heap.size w w' := by
  have HR := hide hr
  have HS := hide hs
  have HLe := hide hle
  have Hn := hide hl
  clear hr hs hle hl
  go_enter Try.func35, Try.ntmps35
  go_wp2
  go_loopw [1, 5] (fun a i wr => ∃ (pre post : List Sv) (q j : Nat), Hid (pre ++ post = ss) ∧ Hid (pre.length = j) ∧ Hid (mkN k pre = q) ∧ j ≤ n ∧ a = .int .i64 (q : Int) ∧ i = .int .i64 (j : Int) ∧ Below w.heap.size w wr) (fun _ i _ => n - (intOf i).toNat)
  case atStart => exact ⟨[], ss, k, 0, hide rfl, hide rfl, hide rfl, Nat.zero_le _, rfl, rfl, Below.refl _ _⟩
  case round =>
    obtain ⟨pre, post, q, j, hss, hpre, hq, hj, rfl, rfl, bel⟩ := hrel
    by_cases hlt : j < n
    · obtain ⟨s, post, rfl⟩ : ∃ s r, post = s :: r := by
        cases post with
        | nil => exfalso; have h1 := hss.out; have h2 := hpre.out; have h3 := Hn.out; rw [List.append_nil] at h1; rw [h1] at h2; omega
        | cons s r => exact ⟨s, r, rfl⟩
      have jI : (j : Int) < (n : Int) := by omega
      have hmem : s ∈ ss := by rw [← hss.out]; simp
      have hsl := HLe.out s hmem
      have l1 := hsl.pn
      have l2 := hsl.sn
      have hq0 := mkN_le (a := pre) (fun x hx => HLe.out x (by rw [← hss.out]; exact List.mem_append_left _ hx)) k
      rw [hq.out, hpre.out] at hq0
      have hqb : q ≤ 1048576 + 8 * 2097154 := by omega
      have hms : mkSvs k ss = mkSvs k pre ++ mkSv q s :: mkSvs (mkE q s) post := by rw [← hss.out, mkSvs_append, hq.out]; rfl
      have hget : (mkSvs k ss)[j]? = some (mkSv q s) := by
        rw [hms, List.getElem?_append_right (by rw [mkSvs_len, hpre.out]; exact Nat.le_refl _), mkSvs_len, hpre.out, Nat.sub_self]; rfl
      obtain ⟨ad, s', rfl, hab, hx, d0, d1, d2, d3⟩ := svC_get HR.out (by rw [mkSvs_len]; exact Hn.out) hlt
      rw [hget] at hx
      injection hx with hx
      subst hx
      obtain ⟨hP, hF⟩ := HS.out (mkSv q s) (by rw [hms]; simp)
      change Reads w B 1 s.PA s.pn (il (marksOf (fun z => z) (q + 2) s.pn)) at hP
      change Reads w B 1 s.SA s.sn (fl .f32 (marksOf (floatOfInt .f32) (q + 2 + s.pn) s.sn)) at hF
      rw [il_marks, show q + 2 = ((q : Int) + 1 + 1).toNat by omega] at hP
      rw [fl_marks, show q + 2 + s.pn = ((q : Int) + 1 + 1 + (s.pn : Int)).toNat by omega] at hF
      have HP := hide hP
      have HF := hide hF
      have hbl : (ad.add (j * 4)).block < w.heap.size := by rw [add_block]; omega
      have e0 : w.cell? (ad.add (j * 4)) = some (.string (mtx q)) := d0
      have e1 : w.cell? ⟨(ad.add (j * 4)).block, (ad.add (j * 4)).off + 1, none⟩ = some (.int .i64 ((q : Int) + 1)) := d1
      have e2 : w.cell? ⟨(ad.add (j * 4)).block, (ad.add (j * 4)).off + 2, none⟩ = some (.slice s.PA s.pn s.pc) := d2
      have e3 : w.cell? ⟨(ad.add (j * 4)).block, (ad.add (j * 4)).off + 3, none⟩ = some (.slice s.SA s.sn s.sc) := d3
      have E1 := hide e1
      have E2 := hide e2
      have E3 := hide e3
      have hzr : w.heap.size ≤ wr.heap.size := bel.size
      have c0 : ∀ p : BelW wr, p.v.cell? (ad.add (j * 4)) = some (.string (mtx q)) := fun p => ((bel.trans (p.h.mono hzr)).cell hbl).trans e0
      have hne : (!(mtx q).toList == (mtx q).toList) = false := by simp
      have j0 : (0 : Int) ≤ (j : Int) := by omega
      clear d0 d1 d2 d3 hget hms hmem hsl hq0 hP hF e0 e1 e2 e3
      go_wp2
      refine wp_region_quiet_bel (by kernel_rfl) (by kernel_rfl) ?_
      repeat (go_big_quiet_step ((go_at_call 68; exact Calls.bel_of (l_markText (by omega)))))
      refine wpQuiet_nil ?_
      intro w9 hw'
      obtain ⟨p, rfl⟩ := hw'
      have hqb := p.h
      generalize p.v = wq at hqb ⊢
      clear p
      have bel2 := bel.trans (hqb.mono hzr)
      have x1 : wq.cell? ⟨(ad.add (j * 4)).block, (ad.add (j * 4)).off + 1, none⟩ = some (.int .i64 ((q : Int) + 1)) := (bel2.cell (by exact hbl)).trans E1.out
      have x2 : wq.cell? ⟨(ad.add (j * 4)).block, (ad.add (j * 4)).off + 2, none⟩ = some (.slice s.PA s.pn s.pc) := (bel2.cell (by exact hbl)).trans E2.out
      have i1 : ¬ (q : Int) + 1 + 1 + (s.pn : Int) < 0 := by omega
      have i2 : ¬ (q : Int) + 1 + 1 + (s.pn : Int) + (s.sn : Int) < 0 := by omega
      clear hqb c0 hne bel
      go_wp2_with fail
      refine (heldI (HP.out.below (bel2.mono hB)) (by omega) (by omega)).mono ?_
      rintro e w3 ⟨rfl, hb3⟩
      have bel3 := bel2.trans (hb3.mono bel2.size)
      have x3 : w3.cell? ⟨(ad.add (j * 4)).block, (ad.add (j * 4)).off + 3, none⟩ = some (.slice s.SA s.sn s.sc) := (bel3.cell (by exact hbl)).trans E3.out
      clear x1 x2 hb3 bel2
      go_wp2_with fail
      refine (heldF (HF.out.below (bel3.mono hB)) (by omega) (by omega)).mono ?_
      rintro e w4 ⟨rfl, hb4⟩
      have bel4 := bel3.trans (hb4.mono bel3.size)
      have Hq2 : Hid (mkN k (pre ++ [s]) = q + 2 + s.pn + s.sn) := hide (by rw [mkN_snoc, hq.out]; rfl)
      have Hss2 : Hid ((pre ++ [s]) ++ post = ss) := hide (by rw [← hss.out, List.append_assoc]; rfl)
      have Hpre2 : Hid ((pre ++ [s]).length = j + 1) := hide (by rw [List.length_append, hpre.out]; rfl)
      clear x3 hb4 bel3 E1 E2 E3
      go_wp2
      go_roundw
      case rel => exact ⟨pre ++ [s], post, q + 2 + s.pn + s.sn, j + 1, Hss2, Hpre2, Hq2, by omega, by first | go_num | (congr 1; omega), by go_num, bel4⟩
      case measure => (simp [intOf]; omega)
    · obtain rfl : j = n := by omega
      have jI : ¬ (j : Int) < (j : Int) := by omega
      obtain rfl : post = [] := by
        have h1 := hss.out; have h2 := hpre.out; have h3 := Hn.out
        rw [← h1, List.length_append, h2] at h3
        exact List.eq_nil_of_length_eq_zero (by omega)
      have hpe : pre = ss := by have := hss.out; rwa [List.append_nil] at this
      subst hpe
      go_wp2
      go_ret
      exact ⟨by rw [hq.out]; rfl, bel⟩
end Go.Proofs.Ytjfmjeffmnjilaa
