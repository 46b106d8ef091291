/-
  What the laws do with lists of systems with signals: how many cells they have, and that two are the same.
-/
import Derived.Test.YtjfmjeffmnjilaaSvC
import Derived.Test.YtjfmjeffmnjilaaSvS
import Derived.Deep.RegionHeld3
namespace Go.Proofs.Ytjfmjeffmnjilaa
open Go.RowKit Fl Mem
set_option linter.unusedVariables false
set_option maxRecDepth 100000

/-- What is known of one that may be long. -/
def SvBig (s : Sv) : Prop := s.nm.size ≤ 9223372036854775807 ∧ s.pn ≤ 9223372036854775807 ∧ s.sn ≤ 9223372036854775807
set_option maxHeartbeats 1000000 in
theorem l_szSavedS {A : Option Addr} {n c B : Nat} {ss : List Sv} {left : Int} {w : World} (h : SvR w B A n ss) (hB : B ≤ w.heap.size) (hn : n ≤ 9223372036854775807) (h0 : 0 ≤ left) (h1 : left ≤ 1048576) (hl : ∀ s ∈ ss, SvBig s) :
    Calls Try.prog 11 #[.slice A n c, .int .i64 left] w fun e w' => ∃ r : Int, e = .returned (.int .i64 r) ∧ (r < 0 ∨ (0 ≤ r ∧ r ≤ left ∧ n ≤ left ∧ ∀ s ∈ ss, SvLe 1048576 s)) ∧ Below w.heap.size w w' := by
  have Hl := hide h.len
  by_cases hnl : (n : Int) ≤ left
  · have i1 : ¬ left - (n : Int) < 0 := by omega
    go_enter Try.func11, Try.ntmps11
    go_wp2
    go_loopw [1, 5] (fun r i wr => ∃ (k : Nat) (q : Int), k ≤ n ∧ i = .int .i64 k ∧ r = .int .i64 q ∧ 0 ≤ q ∧ q ≤ left ∧ (∀ s ∈ ss.take k, SvLe 1048576 s) ∧ Below w.heap.size w wr) (fun _ i _ => n - (intOf i).toNat)
    case atStart => exact ⟨0, left - n, Nat.zero_le _, rfl, rfl, by omega, by omega, (fun s hs => by simp at hs), Below.refl _ _⟩
    case round =>
      obtain ⟨k, q, hk, rfl, rfl, q0, q1, hls, hbel⟩ := hrel
      have hsz := hbel.size
      have Hls := hide hls
      clear hls
      by_cases hlt : k < n
      · obtain ⟨ad, s, rfl, hab, hx, o1, c0, c1, c2, c3⟩ := (h.below (hbel.mono hB)).at hlt
        have hle := hl s (List.mem_of_getElem? hx)
        rcases s with ⟨nm, parts, PA, pn, pc, ps, SA, sn, sc, xs⟩
        obtain ⟨l3, l1, l2⟩ := hle
        have Hx := hide hx
        have i1 : (0 : Int) ≤ k := by omega
        have i2 : (k : Int) < n := by omega
        clear hx
        dsimp only at c0 c1 c2 c3 l1 l2 l3
        go_wp2_with fail
        refine (l_szSaved q0 (by omega) l1 l2 l3).mono ?_
        rintro e w1 ⟨r, rfl, hr, hb⟩
        have hbel1 : Below w.heap.size w w1 := hbel.trans (hb.mono hsz)
        clear hb c0 c1 c2 c3
        rcases hr with hr | ⟨hr, hr1⟩
        · go_wp2
          go_ret
          exact ⟨_, rfl, .inl (by omega), hbel1⟩
        · have i3 : ¬ r < 0 := by omega
          have Hr1 := hide hr1
          clear hr1
          go_wp2
          go_roundw
          case rel => exact ⟨k + 1, r, by omega, by go_num, rfl, hr, by have := Hr1.out; omega, fun s hs => by
            rw [take_eq Hx.out] at hs
            rcases List.mem_append.1 hs with hs | hs
            · exact Hls.out s hs
            · obtain rfl := List.mem_singleton.1 hs
              have := Hr1.out
              exact ⟨by show nm.size ≤ _; omega, by show pn ≤ _; omega, by show sn ≤ _; omega⟩, hbel1⟩
          case measure => simp [intOf]; omega
      · go_wp2
        go_ret
        obtain rfl : k = n := by omega
        exact ⟨_, rfl, .inr ⟨q0, q1, hnl, fun s hs => Hls.out s (by rw [List.take_of_length_le (by rw [Hl.out]; exact Nat.le_refl _)]; exact hs)⟩, hbel⟩
  · have i1 : left - (n : Int) < 0 := by omega
    go_enter Try.func11, Try.ntmps11
    go_wp2
    go_ret
    exact ⟨_, rfl, .inl (by omega), Below.refl _ _⟩

theorem svK_iff {s t : Sv} : svK s = svK t ↔ s.nm = t.nm ∧ s.parts = t.parts ∧ s.ps = t.ps ∧ s.xs.map (cn .f32) = t.xs.map (cn .f32) := by
  unfold svK
  rw [Prod.mk.injEq, Prod.mk.injEq, Prod.mk.injEq]
set_option maxHeartbeats 2000000 in
theorem l_eqSaved {s t : Sv} {B B' : Nat} {w : World} (h : SvOk w B s) (h' : SvOk w B' t) (hB : B ≤ w.heap.size) (hB' : B' ≤ w.heap.size) (hs : SvLe 1099511627776 s) (ht : SvLe 1099511627776 t) (he : svK s = svK t) :
    Calls Try.prog 20 #[svV s, svV t] w fun e w' => e = .returned (.bool true) ∧ Below w.heap.size w w' := by
  rcases s with ⟨nm, parts, PA, pn, pc, ps, SA, sn, sc, xs⟩
  rcases t with ⟨nm', parts', PA', pn', pc', ps', SA', sn', sc', xs'⟩
  obtain ⟨rfl, rfl, rfl, he⟩ := svK_iff.1 he
  dsimp only at he
  have He := hide he
  clear he
  have P1 := fun o1 o2 => (h.paths.alloc hB o1).alloc (by simp; omega) o2
  have P2 := fun o1 o2 => (h'.paths.alloc hB' o1).alloc (by simp; omega) o2
  have S1 := fun o1 o2 => (h.sig.alloc hB o1).alloc (by simp; omega) o2
  have S2 := fun o1 o2 => (h'.sig.alloc hB' o1).alloc (by simp; omega) o2
  have l1 := hs.pn
  have l2 := ht.pn
  have l3 := hs.sn
  have l4 := ht.sn
  dsimp only at P1 P2 S1 S2 l1 l2 l3 l4
  have hk1 : (!nm.toList == nm.toList) = false := by simp
  go_enter Try.func20, Try.ntmps20
  go_wp2_with fail
  refine (l_eqSystem parts (B := B) (B' := B') (P1 _ _) (P2 _ _) (by simp; omega) (by simp; omega) l1).mono ?_
  rintro e w3 ⟨rfl, hb⟩
  have b1 := (((blk_new' w w.heap.size _ _ rfl).alloc _).below hb (by simp; omega) : Blk w3 w.heap.size 38 _)
  have b2 := ((blk_new' (w.alloc _) (w.heap.size + 1) _ _ (by simp)).below hb (by simp) : Blk w3 (w.heap.size + 1) 38 _)
  have c1 : w3.cell? ⟨w.heap.size, 2, none⟩ = none ∨ True := .inr trivial
  have c2 : w3.cell? ⟨w.heap.size, 3, none⟩ = some (.slice SA sn sc) := b1.cell 3
  have c3 : w3.cell? ⟨w.heap.size + 1, 3, none⟩ = some (.slice SA' sn' sc') := b2.cell 3
  clear b1 b2 c1
  have S1' := (S1 _ _).below (hb.mono (by simp; omega))
  have S2' := (S2 _ _).below (hb.mono (by simp; omega))
  clear S1 S2 P1 P2
  go_wp2_with (go_at_call 52; refine (eqF S1' S2' l3 He.out).mono ?_; rintro e w4 ⟨rfl, hb4⟩)
  go_ret
  exact ⟨rfl, ((below_al' (Nat.le_refl _) _).alloc (by simp) _).trans ((hb.trans (hb4.mono hb.size)).mono (by simp; omega))⟩

theorem svK_len {ss ts : List Sv} (h : ss.map svK = ts.map svK) : ss.length = ts.length := by have := congrArg List.length h; simpa using this
theorem svK_at {ss ts : List Sv} (h : ss.map svK = ts.map svK) {k : Nat} {s t : Sv} (hx : ss[k]? = some s) (hy : ts[k]? = some t) : svK s = svK t := by
  have h1 := congrArg (fun l => l[k]?) h
  simpa [hx, hy] using h1
theorem sv_cell {w w' : World} {B : Nat} {p : Addr} {v : Value} (h : w.cell? p = some v) (hb : Below B w w') (hp : p.block < B) : w'.cell? p = some v := (hb.cell hp).trans h
theorem sv_undrew {w w' : World} (h : Below w.drew.heap.size w.drew w') : Below w.heap.size w w' := ⟨h.os, h.tape, h.output, h.size, h.block⟩
set_option maxHeartbeats 4000000 in
theorem l_eqSavedS {A A' : Option Addr} {n n' c c' B B' : Nat} {xs ys : List Sv} {w : World} (h : SvR w B A n xs) (h' : SvR w B' A' n' ys) (hB : B ≤ w.heap.size) (hB' : B' ≤ w.heap.size) (hn : n ≤ 1099511627776) (hx : ∀ a ∈ xs, SvLe 1099511627776 a) (hy : ∀ a ∈ ys, SvLe 1099511627776 a) (he : xs.map svK = ys.map svK) :
    Calls Try.prog 15 #[.slice A n c, .slice A' n' c'] w fun e w' => e = .returned (.bool true) ∧ Below w.heap.size w w' := by
  obtain rfl : n' = n := by rw [← h.len, ← h'.len, svK_len he]
  have He := hide he
  clear he
  have hne : ((n' : Int) != (n' : Int)) = false := by simp
  go_enter Try.func15, Try.ntmps15
  go_wp2
  go_loopw [5] (fun i wr => ∃ k : Nat, k ≤ n' ∧ i = .int .i64 k ∧ Below w.heap.size w wr) (fun i _ => n' - (intOf i).toNat)
  case atStart => exact ⟨0, Nat.zero_le _, rfl, Below.refl _ _⟩
  case round =>
    obtain ⟨k, hk, rfl, hbel⟩ := hrel
    have hsz := hbel.size
    by_cases hlt : k < n'
    · obtain ⟨ad, s, rfl, hab, hx1, o1, c0, c1, c2, c3⟩ := (h.below (hbel.mono hB)).at hlt
      obtain ⟨ad', t, rfl, hab', hy1, o2, d0, d1, d2, d3⟩ := (h'.below (hbel.mono hB')).at hlt
      have hK := svK_at He.out hx1 hy1
      have wx := hx s (List.mem_of_getElem? hx1)
      have wy := hy t (List.mem_of_getElem? hy1)
      have i1 : (0 : Int) ≤ k := by omega
      have i2 : (k : Int) < n' := by omega
      have hBw : B ≤ wr.heap.size := by omega
      have hBw' : B' ≤ wr.heap.size := by omega
      have hb1 : (ad.add (k * 4)).block < wr.heap.size := by rw [block_of_add]; omega
      have hb2 : (ad'.add (k * 4)).block < wr.heap.size := by rw [block_of_add]; omega
      have HK := hide hK
      have O1 : SvOk wr.drew B s := ⟨o1.paths.drew, o1.sig.drew, o1.wf, o1.wfi, o1.wfp⟩
      have O2 : SvOk wr.drew B' t := ⟨o2.paths.drew, o2.sig.drew, o2.wf, o2.wfi, o2.wfp⟩
      clear hx1 hy1 hK
      go_wp2
      go_region_held3 (fun w' => w'.cell? (ad.add (k * 4)) = some (.string s.nm) ∧ w'.cell? (ad'.add (k * 4)) = some (.string t.nm) ∧ w'.cell? ⟨(ad.add (k * 4)).block, (ad.add (k * 4)).off + 1, none⟩ = some (.int .i64 s.parts) ∧ w'.cell? ⟨(ad'.add (k * 4)).block, (ad'.add (k * 4)).off + 1, none⟩ = some (.int .i64 t.parts) ∧ w'.cell? ⟨(ad.add (k * 4)).block, (ad.add (k * 4)).off + 2, none⟩ = some (.slice s.PA s.pn s.pc) ∧ w'.cell? ⟨(ad'.add (k * 4)).block, (ad'.add (k * 4)).off + 2, none⟩ = some (.slice t.PA t.pn t.pc) ∧ w'.cell? ⟨(ad.add (k * 4)).block, (ad.add (k * 4)).off + 3, none⟩ = some (.slice s.SA s.sn s.sc) ∧ w'.cell? ⟨(ad'.add (k * 4)).block, (ad'.add (k * 4)).off + 3, none⟩ = some (.slice t.SA t.sn t.sc)) (first | assumption | go_keep)
        (first
          | (go_at_call 20; refine (l_eqSaved (B := B) (B' := B') O1 O2 hBw hBw' wx wy HK.out).mono ?_; rintro e w3 ⟨rfl, hb⟩; have B3 : Below wr.heap.size wr w3 := sv_undrew hb; have K3 : w3.cell? (ad.add (k * 4)) = some (.string s.nm) ∧ w3.cell? (ad'.add (k * 4)) = some (.string t.nm) ∧ w3.cell? ⟨(ad.add (k * 4)).block, (ad.add (k * 4)).off + 1, none⟩ = some (.int .i64 s.parts) ∧ w3.cell? ⟨(ad'.add (k * 4)).block, (ad'.add (k * 4)).off + 1, none⟩ = some (.int .i64 t.parts) ∧ w3.cell? ⟨(ad.add (k * 4)).block, (ad.add (k * 4)).off + 2, none⟩ = some (.slice s.PA s.pn s.pc) ∧ w3.cell? ⟨(ad'.add (k * 4)).block, (ad'.add (k * 4)).off + 2, none⟩ = some (.slice t.PA t.pn t.pc) ∧ w3.cell? ⟨(ad.add (k * 4)).block, (ad.add (k * 4)).off + 3, none⟩ = some (.slice s.SA s.sn s.sc) ∧ w3.cell? ⟨(ad'.add (k * 4)).block, (ad'.add (k * 4)).off + 3, none⟩ = some (.slice t.SA t.sn t.sc) := ⟨sv_cell c0 B3 hb1, sv_cell d0 B3 hb2, sv_cell c1 B3 hb1, sv_cell d1 B3 hb2, sv_cell c2 B3 hb1, sv_cell d2 B3 hb2, sv_cell c3 B3 hb1, sv_cell d3 B3 hb2⟩))
      have hbel1 := hbel.trans (B3.mono hsz)
      clear K3 B3 hb c0 c1 c2 c3 d0 d1 d2 d3 O1 O2
      go_wp2
      go_roundw
      case rel => exact ⟨k + 1, by omega, by go_num, hbel1⟩
      case measure => simp [intOf]; omega
    · go_wp2
      go_ret
      exact ⟨rfl, hbel⟩
end Go.Proofs.Ytjfmjeffmnjilaa
