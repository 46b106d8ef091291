/-
  Contracts of 'the same' for lives, laws, chains, plans and desks: the reference's.
-/
import Derived.Test.YthocahpemjijhaaSameD
import Derived.Deep.RegionHeld3
namespace Go.Proofs.Ythocahpemjijhaa
open Go.RowKit Fl Mem
set_option linter.unusedVariables false
set_option maxRecDepth 100000

theorem reads_1 {w : World} {g a : Nat} (h : w.cell? ⟨g, 0, none⟩ = some (.float .f32 a)) : Reads w (g + 1) 1 (some ⟨g, 0, none⟩) 1 (fl .f32 [a]) :=
  ⟨rfl, fun _ => ⟨_, rfl, by simp, fun j u hu => by
    rcases j with _ | j
    · simp at hu; subst hu; simpa [Addr.add] using h
    · simp at hu⟩⟩
theorem reads_2 {w : World} {g a b : Nat} (h : w.cell? ⟨g, 0, none⟩ = some (.float .f32 a)) (h' : w.cell? ⟨g, 1, none⟩ = some (.float .f32 b)) : Reads w (g + 1) 1 (some ⟨g, 0, none⟩) 2 (fl .f32 [a, b]) :=
  ⟨rfl, fun _ => ⟨_, rfl, by simp, fun j u hu => by
    rcases j with _ | _ | j
    · simp at hu; subst hu; simpa [Addr.add] using h
    · simp at hu; subst hu; simpa [Addr.add] using h'
    · simp at hu⟩⟩
theorem sameAll_1 {g g' a b c c' : Nat} {w : World} (h : w.cell? ⟨g, 0, none⟩ = some (.float .f32 a)) (h' : w.cell? ⟨g', 0, none⟩ = some (.float .f32 b)) (wa : Wf .f32 a) (wb : Wf .f32 b) :
    Calls Try.prog 97 #[.slice (some ⟨g, 0, none⟩) 1 c, .slice (some ⟨g', 0, none⟩) 1 c'] w fun e w' => e = .returned (.bool (sameN a b)) ∧ ∃ m, w' = w.drewN m := by
  have e : sameL [a] [b] = sameN a b := by unfold sameL sameN; simp
  have := s_l01SameAll (c := c) (c' := c') (xs := [a]) (ys := [b]) (reads_1 h) (reads_1 h') (by omega) (by omega) (by simpa using wa) (by simpa using wb)
  rwa [e] at this
theorem sameAll_2 {g g' a b a' b' c c' : Nat} {w : World} (h : w.cell? ⟨g, 0, none⟩ = some (.float .f32 a)) (h1 : w.cell? ⟨g, 1, none⟩ = some (.float .f32 a')) (h' : w.cell? ⟨g', 0, none⟩ = some (.float .f32 b)) (h1' : w.cell? ⟨g', 1, none⟩ = some (.float .f32 b'))
    (wa : Wf .f32 a) (wa' : Wf .f32 a') (wb : Wf .f32 b) (wb' : Wf .f32 b') :
    Calls Try.prog 97 #[.slice (some ⟨g, 0, none⟩) 2 c, .slice (some ⟨g', 0, none⟩) 2 c'] w fun e w' => e = .returned (.bool (sameN a b && sameN a' b')) ∧ ∃ m, w' = w.drewN m := by
  have e : sameL [a, a'] [b, b'] = (sameN a b && sameN a' b') := by unfold sameL sameN; simp
  have := s_l01SameAll (c := c) (c' := c') (xs := [a, a']) (ys := [b, b']) (reads_2 h h1) (reads_2 h' h1') (by omega) (by omega) (by simp [wa, wa']) (by simp [wb, wb'])
  rwa [e] at this

set_option maxHeartbeats 2000000 in
theorem s_l02Same {A A' : Option Addr} {n n' c c' B B' : Nat} {xs ys : List (Nat × Bool)} {w : World} (h : Reads w B 2 A n (ll xs)) (h' : Reads w B' 2 A' n' (ll ys)) (hB : B ≤ w.heap.size) (hB' : B' ≤ w.heap.size) (hn : n ≤ 1099511627776) (hn' : n' ≤ 1099511627776) (hx : ∀ a ∈ xs, Wf .f32 a.1) (hy : ∀ a ∈ ys, Wf .f32 a.1) :
    Calls Try.prog 107 #[.slice A n c, .slice A' n' c'] w fun e w' => e = .returned (.bool (sameLv xs ys)) ∧ Below w.heap.size w w' := by
  have Hl := hide (lives_len h)
  have Hl' := hide (lives_len h')
  by_cases hnn : n = n'
  · subst hnn
    go_enter Try.func107, Try.ntmps107
    go_wp2
    go_loopw [5] (fun i wr => ∃ k : Nat, k ≤ n ∧ i = .int .i64 k ∧ Below w.heap.size w wr ∧ Hid (toldL (xs.take k) = toldL (ys.take k))) (fun i _ => n - (intOf i).toNat)
    case atStart => exact ⟨0, Nat.zero_le _, rfl, Below.refl _ _, hide rfl⟩
    case round =>
      obtain ⟨k, hk, rfl, hbel, hp⟩ := hrel
      have hsz := hbel.size
      by_cases hlt : k < n
      · obtain ⟨ad, p, rfl, hab, hx1, hc, hc2⟩ := reads_ll (h.below (hbel.mono hB)) hlt
        obtain ⟨ad', q, rfl, hab', hy1, hc', hc2'⟩ := reads_ll (h'.below (hbel.mono hB')) hlt
        have hc2b : wr.cell? ⟨(ad.add (k * 2)).block, (ad.add (k * 2)).off + 1, none⟩ = some (.bool p.2) := hc2
        have hc2b' : wr.cell? ⟨(ad'.add (k * 2)).block, (ad'.add (k * 2)).off + 1, none⟩ = some (.bool q.2) := hc2'
        have wx := hx p (List.mem_of_getElem? hx1)
        have wy := hy q (List.mem_of_getElem? hy1)
        have Hx := hide hx1
        have Hy := hide hy1
        have i1 : (0 : Int) ≤ k := by omega
        have i2 : (k : Int) < n := by omega
        clear hx1 hy1
        cases hf : p.2 == q.2 with
        | false =>
          have Hs := hide (sameLv_no Hx.out Hy.out (by unfold sameLife; rw [hf]; simp))
          go_wp2
          go_quiet (fail)
          go_wp2
          go_ret
          exact ⟨ret_bool Hs.out.symm, below_drewN hbel _⟩
        | true =>
          have hbw : ∀ (o1 o2 : Obj) (m : Nat), Below w.heap.size w (((wr.alloc o1).alloc o2).drewN m) := fun o1 o2 m => below_drewN ((hbel.alloc hsz o1).alloc (by simp; omega) o2) m
          cases hs : sameN p.1 q.1 with
          | false =>
            have Hs := hide (sameLv_no Hx.out Hy.out (by unfold sameLife; rw [hs]; simp))
            have ne1 := World.new_ne wr _ hc
            have ne2 := World.new_ne wr _ hc'
            have ne3 := World.new_ne wr _ hc2b
            have ne4 := World.new_ne wr _ hc2b'
            go_wp2
            go_region_held3 (fun w' => w'.cell? (ad.add (k * 2)) = some (.float .f32 p.1) ∧ w'.cell? (ad'.add (k * 2)) = some (.float .f32 q.1) ∧ w'.cell? ⟨(ad.add (k * 2)).block, (ad.add (k * 2)).off + 1, none⟩ = some (.bool p.2) ∧ w'.cell? ⟨(ad'.add (k * 2)).block, (ad'.add (k * 2)).off + 1, none⟩ = some (.bool q.2)) (go_keep)
              (first | (go_at_call 97; refine (sameAll_1 (a := p.1) (b := q.1) ?_ ?_ wx wy).mono ?_; (simp [*]); (simp [*]); rintro e w1 ⟨rfl, m, rfl⟩))
            all_goals
              go_wp2
              go_ret
              exact ⟨ret_bool Hs.out.symm, hbw _ _ _⟩
          | true =>
            have Hs := hide (sameLv_take Hx.out Hy.out (by unfold sameLife; rw [hs, hf]; rfl) hp.out)
            have ne1 := World.new_ne wr _ hc
            have ne2 := World.new_ne wr _ hc'
            have ne3 := World.new_ne wr _ hc2b
            have ne4 := World.new_ne wr _ hc2b'
            go_wp2
            go_region_held3 (fun w' => w'.cell? (ad.add (k * 2)) = some (.float .f32 p.1) ∧ w'.cell? (ad'.add (k * 2)) = some (.float .f32 q.1) ∧ w'.cell? ⟨(ad.add (k * 2)).block, (ad.add (k * 2)).off + 1, none⟩ = some (.bool p.2) ∧ w'.cell? ⟨(ad'.add (k * 2)).block, (ad'.add (k * 2)).off + 1, none⟩ = some (.bool q.2)) (go_keep)
              (first | (go_at_call 97; refine (sameAll_1 (a := p.1) (b := q.1) ?_ ?_ wx wy).mono ?_; (simp [*]); (simp [*]); rintro e w1 ⟨rfl, m, rfl⟩))
            all_goals
              go_wp2
              go_roundw
              case rel => exact ⟨k + 1, by omega, by go_num, hbw _ _ _, Hs⟩
              case measure => simp [intOf]; omega
      · go_wp2
        go_ret
        obtain rfl : k = n := by omega
        exact ⟨ret_bool (sameLv_all Hl.out Hl'.out hp.out).symm, hbel⟩
  · have hne : ((n : Int) != (n' : Int)) = true := by simp; omega
    have Hs := hide (sameLv_len (xs := xs) (ys := ys) (by rw [Hl.out, Hl'.out]; exact hnn))
    clear hnn
    go_enter Try.func107, Try.ntmps107
    go_wp2
    go_ret
    exact ⟨ret_bool Hs.out.symm, Below.refl _ _⟩

set_option maxHeartbeats 4000000 in
theorem s_l02SameLaw {g g' o o' : Nat} {k k' : Int} {x y x' y' : Nat} {w : World} (h1 : w.cell? ⟨g, o, none⟩ = some (.int .i64 k)) (h2 : w.cell? ⟨g, o + 1, none⟩ = some (.float .f32 x)) (h3 : w.cell? ⟨g, o + 2, none⟩ = some (.float .f32 y))
    (h1' : w.cell? ⟨g', o', none⟩ = some (.int .i64 k')) (h2' : w.cell? ⟨g', o' + 1, none⟩ = some (.float .f32 x')) (h3' : w.cell? ⟨g', o' + 2, none⟩ = some (.float .f32 y')) (wx : Wf .f32 x) (wy : Wf .f32 y) (wx' : Wf .f32 x') (wy' : Wf .f32 y') :
    Calls Try.prog 108 #[.pointer (some ⟨g, o, none⟩), .pointer (some ⟨g', o', none⟩)] w fun e w' => e = .returned (.bool (sameLawB k k' x y x' y')) ∧ Below w.heap.size w w' := by
  cases hk : k == k' with
  | false =>
    have Hs : Hid (sameLawB k k' x y x' y' = false) := hide (by unfold sameLawB; rw [hk]; rfl)
    go_enter Try.func108, Try.ntmps108
    go_wp2
    go_quiet (fail)
    go_wp2
    go_ret
    exact ⟨ret_bool Hs.out.symm, (by repeat (first | exact Below.refl _ _ | exact below_drewN (by assumption) _ | refine below_drewN ?_ _ | refine Below.alloc ?_ (by first | (simp; done) | (simp; omega)) _ | assumption))⟩
  | true =>
    have Hs : Hid (sameLawB k k' x y x' y' = (sameN x x' && sameN y y')) := hide (by unfold sameLawB; rw [hk]; rfl)
    have ne1 := World.new_ne w _ h1
    have ne2 := World.new_ne w _ h1'
    go_enter Try.func108, Try.ntmps108
    go_wp2
    go_region_held3 (fun w' => w'.cell? ⟨g, o, none⟩ = some (.int .i64 k) ∧ w'.cell? ⟨g, o + 1, none⟩ = some (.float .f32 x) ∧ w'.cell? ⟨g, o + 2, none⟩ = some (.float .f32 y) ∧ w'.cell? ⟨g', o', none⟩ = some (.int .i64 k') ∧ w'.cell? ⟨g', o' + 1, none⟩ = some (.float .f32 x') ∧ w'.cell? ⟨g', o' + 2, none⟩ = some (.float .f32 y')) (go_keep)
      (first | (go_at_call 97; refine (sameAll_2 (a := x) (a' := y) (b := x') (b' := y') ?_ ?_ ?_ ?_ wx wy wx' wy').mono ?_; (simp [*]); (simp [*]); (simp [*]); (simp [*]); rintro e w1 ⟨rfl, m, rfl⟩))
    all_goals
      go_wp2
      go_ret
      exact ⟨ret_bool Hs.out.symm, (by repeat (first | exact Below.refl _ _ | exact below_drewN (by assumption) _ | refine below_drewN ?_ _ | refine Below.alloc ?_ (by first | (simp; done) | (simp; omega)) _ | assumption))⟩

set_option maxHeartbeats 4000000 in
theorem s_l04Same {g g' o o' n n' c c' B B' : Nat} {st st' : Int} {A A' : Option Addr} {xs ys : List Nat} {w : World} (h1 : w.cell? ⟨g, o, none⟩ = some (.int .i64 st)) (h2 : w.cell? ⟨g, o + 1, none⟩ = some (.slice A n c))
    (h1' : w.cell? ⟨g', o', none⟩ = some (.int .i64 st')) (h2' : w.cell? ⟨g', o' + 1, none⟩ = some (.slice A' n' c')) (h : Reads w B 1 A n (fl .f32 xs)) (h' : Reads w B' 1 A' n' (fl .f32 ys)) (hn : n ≤ 1099511627776) (hn' : n' ≤ 1099511627776) (hx : ∀ a ∈ xs, Wf .f32 a) (hy : ∀ a ∈ ys, Wf .f32 a) :
    Calls Try.prog 109 #[.pointer (some ⟨g, o, none⟩), .pointer (some ⟨g', o', none⟩)] w fun e w' => e = .returned (.bool (sameCh st st' xs ys)) ∧ Below w.heap.size w w' := by
  cases hk : st == st' with
  | false =>
    have Hs : Hid (sameCh st st' xs ys = false) := hide (by unfold sameCh; rw [hk]; rfl)
    go_enter Try.func109, Try.ntmps109
    go_wp2
    go_quiet (fail)
    go_wp2
    go_ret
    exact ⟨ret_bool Hs.out.symm, (by repeat (first | exact Below.refl _ _ | exact below_drewN (by assumption) _ | refine below_drewN ?_ _ | refine Below.alloc ?_ (by first | (simp; done) | (simp; omega)) _ | assumption))⟩
  | true =>
    have Hs : Hid (sameCh st st' xs ys = sameL xs ys) := hide (by unfold sameCh; rw [hk]; rfl)
    go_enter Try.func109, Try.ntmps109
    go_wp2
    go_region_held3 (fun w' => w'.cell? ⟨g, o, none⟩ = some (.int .i64 st) ∧ w'.cell? ⟨g, o + 1, none⟩ = some (.slice A n c) ∧ w'.cell? ⟨g', o', none⟩ = some (.int .i64 st') ∧ w'.cell? ⟨g', o' + 1, none⟩ = some (.slice A' n' c')) (go_keep)
      (first | (go_at_call 97; refine (s_l01SameAll (xs := xs) (ys := ys) (B := B) (B' := B') ?_ ?_ hn hn' hx hy).mono ?_; (exact h.drew); (exact h'.drew); rintro e w1 ⟨rfl, m, rfl⟩))
    all_goals
      go_wp2
      go_ret
      exact ⟨ret_bool Hs.out.symm, (by repeat (first | exact Below.refl _ _ | exact below_drewN (by assumption) _ | refine below_drewN ?_ _ | refine Below.alloc ?_ (by first | (simp; done) | (simp; omega)) _ | assumption))⟩

set_option maxHeartbeats 1000000 in
theorem s_SamePlan {a b a' b' : Int} {w : World} :
    Calls Try.prog 110 #[.agg #[.int .i64 a, .int .i64 b], .agg #[.int .i64 a', .int .i64 b']] w fun e w' => e = .returned (.bool (samePl a b a' b')) ∧ Below w.heap.size w w' := by
  cases hk : a == a' with
  | false =>
    go_enter Try.func110, Try.ntmps110
    go_wp2
    go_ret
    exact ⟨ret_bool (by unfold samePl; rw [hk]; rfl), (by repeat (first | exact Below.refl _ _ | exact below_drewN (by assumption) _ | refine below_drewN ?_ _ | refine Below.alloc ?_ (by first | (simp; done) | (simp; omega)) _ | assumption))⟩
  | true =>
    go_enter Try.func110, Try.ntmps110
    go_wp2
    go_ret
    exact ⟨ret_bool (by unfold samePl; rw [hk]; rfl), (by repeat (first | exact Below.refl _ _ | exact below_drewN (by assumption) _ | refine below_drewN ?_ _ | refine Below.alloc ?_ (by first | (simp; done) | (simp; omega)) _ | assumption))⟩

set_option maxHeartbeats 8000000 in
theorem s_SameDesk {LA LA' RA RA' : Option Addr} {ln lc ln' lc' rn rc rn' rc' sh sc sh' sc' B : Nat} {kd st sz ac kd' st' sz' ac' : Int} {xs ys : List (Nat × Bool)} {rs rs' : List Nat} {w : World} (hB : B ≤ w.heap.size)
    (h1 : Reads w B 2 LA ln (ll xs)) (h1' : Reads w B 2 LA' ln' (ll ys)) (h2 : Reads w B 1 RA rn (fl .f32 rs)) (h2' : Reads w B 1 RA' rn' (fl .f32 rs')) (hn : ln ≤ 1099511627776) (hn' : ln' ≤ 1099511627776) (hm : rn ≤ 1099511627776) (hm' : rn' ≤ 1099511627776)
    (wx : ∀ a ∈ xs, Wf .f32 a.1) (wy : ∀ a ∈ ys, Wf .f32 a.1) (wr : ∀ a ∈ rs, Wf .f32 a) (wr' : ∀ a ∈ rs', Wf .f32 a) (w1 : Wf .f32 sh) (w2 : Wf .f32 sc) (w1' : Wf .f32 sh') (w2' : Wf .f32 sc') :
    Calls Try.prog 47 #[deskV LA ln lc kd sh sc st RA rn rc sz ac, deskV LA' ln' lc' kd' sh' sc' st' RA' rn' rc' sz' ac'] w fun e w' => e = .returned (.bool (sameDk xs ys kd kd' sh sc sh' sc' st st' rs rs' sz ac sz' ac')) ∧ Below w.heap.size w w' := by
  have R1 := fun o1 o2 => (h1.alloc hB o1).alloc (by simp; omega) o2
  have R1' := fun o1 o2 => (h1'.alloc hB o1).alloc (by simp; omega) o2
  have R2 := fun o1 o2 => (h2.alloc hB o1).alloc (by simp; omega) o2
  have R2' := fun o1 o2 => (h2'.alloc hB o1).alloc (by simp; omega) o2
  cases s1 : sameLv xs ys with
  | false =>
    go_enter Try.func47, Try.ntmps47
    go_wp2_with (go_at_call 107; refine (s_l02Same (R1 _ _) (R1' _ _) (by simp; omega) (by simp; omega) hn hn' wx wy).mono ?_; rintro e w3 ⟨rfl, hb⟩)
    go_ret
    have hw := fun o1 o2 => ((Below.refl w.heap.size w).alloc (Nat.le_refl _) o1).alloc (by simp) o2
    exact ⟨ret_bool (by unfold sameDk; rw [s1]; rfl), (hw _ _).trans (hb.mono (by simp; omega))⟩
  | true =>
    have T1 := hide s1
    go_enter Try.func47, Try.ntmps47
    go_wp2_with fail
    refine (s_l02Same (R1 _ _) (R1' _ _) (by simp; omega) (by simp; omega) hn hn' wx wy).mono ?_
    rintro e w3 ⟨rfl, hb⟩
    have q1 := box_cells hb
    have a1 : w3.cell? ⟨w.heap.size, 1, none⟩ = some (.int .i64 kd) := q1.1 1
    have b1 : w3.cell? ⟨w.heap.size + 1, 1, none⟩ = some (.int .i64 kd') := q1.2 1
    have a2 : w3.cell? ⟨w.heap.size, 2, none⟩ = some (.float .f32 sh) := q1.1 2
    have b2 : w3.cell? ⟨w.heap.size + 1, 2, none⟩ = some (.float .f32 sh') := q1.2 2
    have a3 : w3.cell? ⟨w.heap.size, 3, none⟩ = some (.float .f32 sc) := q1.1 3
    have b3 : w3.cell? ⟨w.heap.size + 1, 3, none⟩ = some (.float .f32 sc') := q1.2 3
    have a4 : w3.cell? ⟨w.heap.size, 4, none⟩ = some (.int .i64 st) := q1.1 4
    have b4 : w3.cell? ⟨w.heap.size + 1, 4, none⟩ = some (.int .i64 st') := q1.2 4
    have a5 : w3.cell? ⟨w.heap.size, 5, none⟩ = some (.slice RA rn rc) := q1.1 5
    have b5 : w3.cell? ⟨w.heap.size + 1, 5, none⟩ = some (.slice RA' rn' rc') := q1.2 5
    have a6 : w3.cell? ⟨w.heap.size, 6, none⟩ = some (.int .i64 sz) := q1.1 6
    have b6 : w3.cell? ⟨w.heap.size + 1, 6, none⟩ = some (.int .i64 sz') := q1.2 6
    have a7 : w3.cell? ⟨w.heap.size, 7, none⟩ = some (.int .i64 ac) := q1.1 7
    have b7 : w3.cell? ⟨w.heap.size + 1, 7, none⟩ = some (.int .i64 ac') := q1.2 7
    clear q1
    cases s2 : sameLawB kd kd' sh sc sh' sc' with
    | false =>
      go_wp2_with (go_at_call 108; refine (s_l02SameLaw a1 a2 a3 b1 b2 b3 w1 w2 w1' w2').mono ?_; rintro e w4 ⟨rfl, hb4⟩)
      replace hb := hb.trans (hb4.mono hb.size)
      go_ret
      have hw := fun o1 o2 => ((Below.refl w.heap.size w).alloc (Nat.le_refl _) o1).alloc (by simp) o2
      exact ⟨ret_bool (by unfold sameDk; rw [T1.out, s2]; rfl), (hw _ _).trans (hb.mono (by simp; omega))⟩
    | true =>
      have T2 := hide s2
      go_wp2_with fail
      refine (s_l02SameLaw a1 a2 a3 b1 b2 b3 w1 w2 w1' w2').mono ?_
      rintro e w4 ⟨rfl, hb4⟩
      replace hb := hb.trans (hb4.mono hb.size)
      clear hb4 a1 a2 a3 a4 a5 a6 a7 b1 b2 b3 b4 b5 b6 b7
      have q1 := box_cells hb
      have a1 : w4.cell? ⟨w.heap.size, 1, none⟩ = some (.int .i64 kd) := q1.1 1
      have b1 : w4.cell? ⟨w.heap.size + 1, 1, none⟩ = some (.int .i64 kd') := q1.2 1
      have a2 : w4.cell? ⟨w.heap.size, 2, none⟩ = some (.float .f32 sh) := q1.1 2
      have b2 : w4.cell? ⟨w.heap.size + 1, 2, none⟩ = some (.float .f32 sh') := q1.2 2
      have a3 : w4.cell? ⟨w.heap.size, 3, none⟩ = some (.float .f32 sc) := q1.1 3
      have b3 : w4.cell? ⟨w.heap.size + 1, 3, none⟩ = some (.float .f32 sc') := q1.2 3
      have a4 : w4.cell? ⟨w.heap.size, 4, none⟩ = some (.int .i64 st) := q1.1 4
      have b4 : w4.cell? ⟨w.heap.size + 1, 4, none⟩ = some (.int .i64 st') := q1.2 4
      have a5 : w4.cell? ⟨w.heap.size, 5, none⟩ = some (.slice RA rn rc) := q1.1 5
      have b5 : w4.cell? ⟨w.heap.size + 1, 5, none⟩ = some (.slice RA' rn' rc') := q1.2 5
      have a6 : w4.cell? ⟨w.heap.size, 6, none⟩ = some (.int .i64 sz) := q1.1 6
      have b6 : w4.cell? ⟨w.heap.size + 1, 6, none⟩ = some (.int .i64 sz') := q1.2 6
      have a7 : w4.cell? ⟨w.heap.size, 7, none⟩ = some (.int .i64 ac) := q1.1 7
      have b7 : w4.cell? ⟨w.heap.size + 1, 7, none⟩ = some (.int .i64 ac') := q1.2 7
      clear q1
      have hsz := hb.size
      simp at hsz
      cases s3 : sameCh st st' rs rs' with
      | false =>
        go_wp2_with (go_at_call 109; refine (s_l04Same a4 a5 b4 b5 ((R2 _ _).below (hb.mono (by simp; omega))) ((R2' _ _).below (hb.mono (by simp; omega))) hm hm' wr wr').mono ?_; rintro e w5 ⟨rfl, hb5⟩)
        replace hb := hb.trans (hb5.mono hb.size)
        go_ret
        have hw := fun o1 o2 => ((Below.refl w.heap.size w).alloc (Nat.le_refl _) o1).alloc (by simp) o2
        exact ⟨ret_bool (by unfold sameDk; rw [T1.out, T2.out, s3]; rfl), (hw _ _).trans (hb.mono (by simp; omega))⟩
      | true =>
        have T3 := hide s3
        go_wp2_with fail
        refine (s_l04Same a4 a5 b4 b5 ((R2 _ _).below (hb.mono (by simp; omega))) ((R2' _ _).below (hb.mono (by simp; omega))) hm hm' wr wr').mono ?_
        rintro e w5 ⟨rfl, hb5⟩
        replace hb := hb.trans (hb5.mono hb.size)
        clear hb5 a1 a2 a3 a4 a5 a6 a7 b1 b2 b3 b4 b5 b6 b7
        have q1 := box_cells hb
        have a1 : w5.cell? ⟨w.heap.size, 1, none⟩ = some (.int .i64 kd) := q1.1 1
        have b1 : w5.cell? ⟨w.heap.size + 1, 1, none⟩ = some (.int .i64 kd') := q1.2 1
        have a2 : w5.cell? ⟨w.heap.size, 2, none⟩ = some (.float .f32 sh) := q1.1 2
        have b2 : w5.cell? ⟨w.heap.size + 1, 2, none⟩ = some (.float .f32 sh') := q1.2 2
        have a3 : w5.cell? ⟨w.heap.size, 3, none⟩ = some (.float .f32 sc) := q1.1 3
        have b3 : w5.cell? ⟨w.heap.size + 1, 3, none⟩ = some (.float .f32 sc') := q1.2 3
        have a4 : w5.cell? ⟨w.heap.size, 4, none⟩ = some (.int .i64 st) := q1.1 4
        have b4 : w5.cell? ⟨w.heap.size + 1, 4, none⟩ = some (.int .i64 st') := q1.2 4
        have a5 : w5.cell? ⟨w.heap.size, 5, none⟩ = some (.slice RA rn rc) := q1.1 5
        have b5 : w5.cell? ⟨w.heap.size + 1, 5, none⟩ = some (.slice RA' rn' rc') := q1.2 5
        have a6 : w5.cell? ⟨w.heap.size, 6, none⟩ = some (.int .i64 sz) := q1.1 6
        have b6 : w5.cell? ⟨w.heap.size + 1, 6, none⟩ = some (.int .i64 sz') := q1.2 6
        have a7 : w5.cell? ⟨w.heap.size, 7, none⟩ = some (.int .i64 ac) := q1.1 7
        have b7 : w5.cell? ⟨w.heap.size + 1, 7, none⟩ = some (.int .i64 ac') := q1.2 7
        clear q1
        go_wp2_with fail
        refine s_SamePlan.mono ?_
        rintro e w6 ⟨rfl, hb6⟩
        replace hb := hb.trans (hb6.mono hb.size)
        go_wp2
        go_ret
        have hw := fun o1 o2 => ((Below.refl w.heap.size w).alloc (Nat.le_refl _) o1).alloc (by simp) o2
        exact ⟨ret_bool (by unfold sameDk; rw [T1.out, T2.out, T3.out]; rfl), (hw _ _).trans (hb.mono (by simp; omega))⟩
end Go.Proofs.Ythocahpemjijhaa
