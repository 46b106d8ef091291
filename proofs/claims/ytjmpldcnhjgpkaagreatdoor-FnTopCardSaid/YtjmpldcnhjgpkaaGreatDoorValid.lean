/-
  Contracts of 'the same' for lives, laws, chains, plans and desks: the program's.
-/
import Derived.Test.YtjmpldcnhjgpkaaGreatDoorLayIndexByte
import Derived.Test.YtjmpldcnhjgpkaaGreatDoorPlanT
import Derived.BigGuardPart
namespace Go.Proofs.YtjmpldcnhjgpkaaGreatDoor
open Go.RowKit Fl Mem
set_option linter.unusedVariables false
set_option maxRecDepth 100000

/-- Are two lists of lives the same. -/
def toldL (xs : List (Nat × Bool)) : List (Nat × Bool) := xs.map fun p => (cn .f32 p.1, p.2)
def sameLv (xs ys : List (Nat × Bool)) : Bool := decide (toldL xs = toldL ys)
def sameLife (p q : Nat × Bool) : Bool := sameN p.1 q.1 && (p.2 == q.2)
theorem sameLife_iff {p q : Nat × Bool} : sameLife p q = true ↔ (cn .f32 p.1, p.2) = (cn .f32 q.1, q.2) := by
  unfold sameLife sameN
  rw [Bool.and_eq_true, decide_eq_true_iff, beq_iff_eq, Prod.mk.injEq]
theorem sameLv_len {xs ys : List (Nat × Bool)} (h : xs.length ≠ ys.length) : sameLv xs ys = false := decide_eq_false (fun e => h (by have := congrArg List.length e; simpa [toldL] using this))
theorem sameLv_no {xs ys : List (Nat × Bool)} {k : Nat} {x y : Nat × Bool} (hx : xs[k]? = some x) (hy : ys[k]? = some y) (h : sameLife x y = false) : sameLv xs ys = false := by
  refine decide_eq_false (fun e => ?_)
  have h1 := congrArg (fun l => l[k]?) e
  simp only [toldL, List.getElem?_map, hx, hy, Option.map_some, Option.some.injEq] at h1
  rw [← sameLife_iff] at h1
  rw [h1] at h
  cases h
theorem sameLv_take {xs ys : List (Nat × Bool)} {k : Nat} {x y : Nat × Bool} (hx : xs[k]? = some x) (hy : ys[k]? = some y) (h : sameLife x y = true) (hp : toldL (xs.take k) = toldL (ys.take k)) : toldL (xs.take (k + 1)) = toldL (ys.take (k + 1)) := by
  unfold toldL at hp ⊢
  rw [take_eq hx, take_eq hy, List.map_append, List.map_append, hp]
  rw [sameLife_iff] at h
  simp [h]
theorem sameLv_all {xs ys : List (Nat × Bool)} {n : Nat} (hx : xs.length = n) (hy : ys.length = n) (hp : toldL (xs.take n) = toldL (ys.take n)) : sameLv xs ys = true := by
  rw [List.take_of_length_le (by omega), List.take_of_length_le (by omega)] at hp
  exact decide_eq_true hp

set_option maxHeartbeats 1000000 in
theorem i_SameLives_1 {a a' : Nat} {b b' : Bool} {w : World} (wa : Wf .f32 a) (wa' : Wf .f32 a') :
    Calls Tryz.prog 97 #[.agg #[.float .f32 a, .bool b], .agg #[.float .f32 a', .bool b']] w fun e w' => e = .returned (.bool (sameLife (a, b) (a', b'))) ∧ Below w.heap.size w w' := by
  cases hs : sameN a a' with
  | false =>
    have Hs : Hid (sameLife (a, b) (a', b') = false) := hide (by unfold sameLife; rw [hs]; rfl)
    go_enter Tryz.func97, Tryz.ntmps97
    go_wp2_with (go_at_call 98; refine (i_SameNumber wa wa').mono ?_; rintro e w' ⟨rfl, rfl⟩)
    go_ret
    exact ⟨ret_bool Hs.out.symm, (by repeat (first | exact Below.refl _ _ | exact below_drewN (by assumption) _ | refine below_drewN ?_ _ | refine Below.alloc ?_ (by first | (simp; done) | (simp; omega)) _ | assumption))⟩
  | true =>
    have Hs : Hid (sameLife (a, b) (a', b') = (b == b')) := hide (by unfold sameLife; rw [hs]; rfl)
    go_enter Tryz.func97, Tryz.ntmps97
    go_wp2_with (go_at_call 98; refine (i_SameNumber wa wa').mono ?_; rintro e w' ⟨rfl, rfl⟩)
    go_ret
    exact ⟨ret_bool Hs.out.symm, (by repeat (first | exact Below.refl _ _ | exact below_drewN (by assumption) _ | refine below_drewN ?_ _ | refine Below.alloc ?_ (by first | (simp; done) | (simp; omega)) _ | assumption))⟩

theorem lives_len {w : World} {B n : Nat} {A : Option Addr} {xs : List (Nat × Bool)} (h : Reads w B 2 A n (ll xs)) : xs.length = n := by have := h.1; rw [ll_len] at this; omega
set_option maxHeartbeats 1000000 in
theorem equalFunc_lives {A A' : Option Addr} {n n' c c' B B' : Nat} {xs ys : List (Nat × Bool)} {w : World} (h : Reads w B 2 A n (ll xs)) (h' : Reads w B' 2 A' n' (ll ys)) (hB : B ≤ w.heap.size) (hB' : B' ≤ w.heap.size) (hn : n ≤ 1099511627776) (hn' : n' ≤ 1099511627776) (hx : ∀ a ∈ xs, Wf .f32 a.1) (hy : ∀ a ∈ ys, Wf .f32 a.1) :
    Calls Tryz.prog 96 #[.slice A n c, .slice A' n' c', .func (.func 97) #[] #[]] w fun e w' => e = .returned (.bool (sameLv xs ys)) ∧ Below w.heap.size w w' := by
  have Hl := hide (lives_len h)
  have Hl' := hide (lives_len h')
  by_cases hnn : n = n'
  · subst hnn
    go_enter Tryz.func96, Tryz.ntmps96
    go_wp2
    go_loopw [17] (fun i wr => ∃ k : Nat, k ≤ n ∧ i = .int .i64 k ∧ Below w.heap.size w wr ∧ Hid (toldL (xs.take k) = toldL (ys.take k))) (fun i _ => n - (intOf i).toNat)
    case atStart => exact ⟨0, Nat.zero_le _, rfl, Below.refl _ _, hide rfl⟩
    case round =>
      obtain ⟨k, hk, rfl, hbel, hp⟩ := hrel
      have hsz := hbel.size
      by_cases hlt : k < n
      · obtain ⟨ad, p, rfl, hab, hx1, hc, hc2⟩ := reads_ll (h.below (hbel.mono hB)) hlt
        obtain ⟨ad', q, rfl, hab', hy1, hc', hc2'⟩ := reads_ll (h'.below (hbel.mono hB')) hlt
        have hc3 : ∀ o, (wr.alloc o).cell? (ad'.add (k * 2)) = some (.float .f32 q.1) := fun o => by rw [← hc']; exact World.cell?_alloc_lt _ _ _ (by rw [block_of_add]; omega)
        have hc4 : ∀ o, (wr.alloc o).cell? ⟨(ad'.add (k * 2)).block, (ad'.add (k * 2)).off + 1, none⟩ = some (.bool q.2) := fun o => by
          have : wr.cell? ⟨(ad'.add (k * 2)).block, (ad'.add (k * 2)).off + 1, none⟩ = some (.bool q.2) := hc2'
          rw [← this]; exact World.cell?_alloc_lt _ _ _ (by show (ad'.add (k * 2)).block < _; rw [block_of_add]; omega)
        have hc2b : wr.cell? ⟨(ad.add (k * 2)).block, (ad.add (k * 2)).off + 1, none⟩ = some (.bool p.2) := hc2
        have wx := hx p (List.mem_of_getElem? hx1)
        have wy := hy q (List.mem_of_getElem? hy1)
        have Hx := hide hx1
        have Hy := hide hy1
        have i1 : (0 : Int) ≤ k := by omega
        have i2 : (k : Int) < n := by omega
        clear hx1 hy1
        cases hs : sameLife (p.1, p.2) (q.1, q.2) with
        | false =>
          have Hs := hide (sameLv_no Hx.out Hy.out hs)
          go_wp2_with (go_at_call 97; refine (i_SameLives_1 wx wy).mono ?_; rintro e w1 ⟨rfl, hb⟩)
          go_ret
          exact ⟨ret_bool Hs.out.symm, ((hbel.alloc hsz _).alloc (by simp; omega) _).trans (hb.mono (by simp; omega))⟩
        | true =>
          have Hs := hide (sameLv_take Hx.out Hy.out hs hp.out)
          go_wp2_with (go_at_call 97; refine (i_SameLives_1 wx wy).mono ?_; rintro e w1 ⟨rfl, hb⟩)
          have hbel1 : Below w.heap.size w w1 := ((hbel.alloc hsz _).alloc (by simp; omega) _).trans (hb.mono (by simp; omega))
          go_roundw
          case rel => exact ⟨k + 1, by omega, by go_num, hbel1, Hs⟩
          case measure => simp [intOf]; omega
      · go_wp2
        go_ret
        obtain rfl : k = n := by omega
        exact ⟨ret_bool (sameLv_all Hl.out Hl'.out hp.out).symm, hbel⟩
  · have hne : ((n : Int) != (n' : Int)) = true := by simp; omega
    have Hs := hide (sameLv_len (xs := xs) (ys := ys) (by rw [Hl.out, Hl'.out]; exact hnn))
    clear hnn
    go_enter Tryz.func96, Tryz.ntmps96
    go_wp2
    go_ret
    exact ⟨ret_bool Hs.out.symm, Below.refl _ _⟩
theorem i_SameLives {A A' : Option Addr} {n n' c c' B B' : Nat} {xs ys : List (Nat × Bool)} {w : World} (h : Reads w B 2 A n (ll xs)) (h' : Reads w B' 2 A' n' (ll ys)) (hB : B ≤ w.heap.size) (hB' : B' ≤ w.heap.size) (hn : n ≤ 1099511627776) (hn' : n' ≤ 1099511627776) (hx : ∀ a ∈ xs, Wf .f32 a.1) (hy : ∀ a ∈ ys, Wf .f32 a.1) :
    Calls Tryz.prog 61 #[.slice A n c, .slice A' n' c'] w fun e w' => e = .returned (.bool (sameLv xs ys)) ∧ Below w.heap.size w w' := by
  go_enter Tryz.func61, Tryz.ntmps61
  go_wp2_with (go_at_call 96; refine (equalFunc_lives h h' hB hB' hn hn' hx hy).mono ?_; rintro e w1 ⟨rfl, hb⟩)
  go_ret
  exact ⟨rfl, hb⟩

def sameLawB (k k' : Int) (x y x' y' : Nat) : Bool := (k == k') && (sameN x x' && sameN y y')
def sameCh (s s' : Int) (xs ys : List Nat) : Bool := (s == s') && sameL xs ys
def samePl (a b a' b' : Int) : Bool := (a == a') && (b == b')

set_option maxHeartbeats 1000000 in
theorem i_SameLaw {k k' : Int} {x y x' y' : Nat} {w : World} (h1 : Wf .f32 x) (h2 : Wf .f32 y) (h3 : Wf .f32 x') (h4 : Wf .f32 y') :
    Calls Tryz.prog 62 #[.agg #[.int .i64 k, .float .f32 x, .float .f32 y], .agg #[.int .i64 k', .float .f32 x', .float .f32 y']] w fun e w' => e = .returned (.bool (sameLawB k k' x y x' y')) ∧ Below w.heap.size w w' := by
  cases hk : k == k' with
  | false =>
    have Hs : Hid (sameLawB k k' x y x' y' = false) := hide (by unfold sameLawB; rw [hk]; rfl)
    go_enter Tryz.func62, Tryz.ntmps62
    go_wp2
    go_ret
    exact ⟨ret_bool Hs.out.symm, (by repeat (first | exact Below.refl _ _ | exact below_drewN (by assumption) _ | refine below_drewN ?_ _ | refine Below.alloc ?_ (by first | (simp; done) | (simp; omega)) _ | assumption))⟩
  | true =>
    have Hs : Hid (sameLawB k k' x y x' y' = (sameN x x' && sameN y y')) := hide (by unfold sameLawB; rw [hk]; rfl)
    cases hx : sameN x x' with
    | false =>
      go_enter Tryz.func62, Tryz.ntmps62
      go_wp2_with (go_at_call 98; refine (i_SameNumber h1 h3).mono ?_; rintro e w' ⟨rfl, rfl⟩)
      go_ret
      exact ⟨ret_bool (by rw [Hs.out, hx]; rfl), (by repeat (first | exact Below.refl _ _ | exact below_drewN (by assumption) _ | refine below_drewN ?_ _ | refine Below.alloc ?_ (by first | (simp; done) | (simp; omega)) _ | assumption))⟩
    | true =>
      go_enter Tryz.func62, Tryz.ntmps62
      go_wp2_with (first | (have _t := HA2; go_at_call 98; refine (i_SameNumber h2 h4).mono ?_; rintro e w' ⟨rfl, rfl⟩) | (go_at_call 98; refine (i_SameNumber h1 h3).mono ?_; rintro e w' ⟨rfl, rfl⟩; have HA2 : True := trivial))
      go_ret
      exact ⟨ret_bool (by rw [Hs.out, hx]; rfl), (by repeat (first | exact Below.refl _ _ | exact below_drewN (by assumption) _ | refine below_drewN ?_ _ | refine Below.alloc ?_ (by first | (simp; done) | (simp; omega)) _ | assumption))⟩
set_option maxHeartbeats 1000000 in
theorem i_SameChain {s s' : Int} {A A' : Option Addr} {n n' c c' B B' : Nat} {xs ys : List Nat} {w : World} (h : Reads w B 1 A n (fl .f32 xs)) (h' : Reads w B' 1 A' n' (fl .f32 ys)) (hB : B ≤ w.heap.size) (hB' : B' ≤ w.heap.size) (hn : n ≤ 1099511627776) (hn' : n' ≤ 1099511627776) (hx : ∀ a ∈ xs, Wf .f32 a) (hy : ∀ a ∈ ys, Wf .f32 a) :
    Calls Tryz.prog 63 #[.agg #[.int .i64 s, .slice A n c], .agg #[.int .i64 s', .slice A' n' c']] w fun e w' => e = .returned (.bool (sameCh s s' xs ys)) ∧ Below w.heap.size w w' := by
  have R1 := fun o1 o2 => (h.alloc hB o1).alloc (by simp; omega) o2
  have R2 := fun o1 o2 => (h'.alloc hB' o1).alloc (by simp; omega) o2
  cases hk : s == s' with
  | false =>
    have Hs : Hid (sameCh s s' xs ys = false) := hide (by unfold sameCh; rw [hk]; rfl)
    go_enter Tryz.func63, Tryz.ntmps63
    go_wp2
    go_ret
    exact ⟨ret_bool Hs.out.symm, (by repeat (first | exact Below.refl _ _ | exact below_drewN (by assumption) _ | refine below_drewN ?_ _ | refine Below.alloc ?_ (by first | (simp; done) | (simp; omega)) _ | assumption))⟩
  | true =>
    have Hs : Hid (sameCh s s' xs ys = sameL xs ys) := hide (by unfold sameCh; rw [hk]; rfl)
    go_enter Tryz.func63, Tryz.ntmps63
    go_wp2_with (go_at_call 99; refine (equalFunc_same (R1 _ _) (R2 _ _) hn hn' hx hy).mono ?_; rintro e w1 ⟨rfl, m, rfl⟩)
    go_ret
    exact ⟨ret_bool Hs.out.symm, (by repeat (first | exact Below.refl _ _ | exact below_drewN (by assumption) _ | refine below_drewN ?_ _ | refine Below.alloc ?_ (by first | (simp; done) | (simp; omega)) _ | assumption))⟩
set_option maxHeartbeats 1000000 in
theorem i_SamePlan {a b a' b' : Int} {w : World} :
    Calls Tryz.prog 64 #[.agg #[.int .i64 a, .int .i64 b], .agg #[.int .i64 a', .int .i64 b']] w fun e w' => e = .returned (.bool (samePl a b a' b')) ∧ Below w.heap.size w w' := by
  go_enter Tryz.func64, Tryz.ntmps64
  go_wp2
  all_goals
    go_ret
    exact ⟨ret_bool (by unfold samePl; simp [*]), (by repeat (first | exact Below.refl _ _ | exact below_drewN (by assumption) _ | refine below_drewN ?_ _ | refine Below.alloc ?_ (by first | (simp; done) | (simp; omega)) _ | assumption))⟩

def sameDk (xs ys : List (Nat × Bool)) (kd kd' : Int) (sh sc sh' sc' : Nat) (st st' : Int) (rs rs' : List Nat) (sz ac sz' ac' : Int) : Bool :=
  sameLv xs ys && (sameLawB kd kd' sh sc sh' sc' && (sameCh st st' rs rs' && samePl sz ac sz' ac'))
set_option maxHeartbeats 8000000 in
theorem i_SameDesk {LA LA' RA RA' : Option Addr} {ln lc ln' lc' rn rc rn' rc' sh sc sh' sc' B : Nat} {kd st sz ac kd' st' sz' ac' : Int} {xs ys : List (Nat × Bool)} {rs rs' : List Nat} {w : World} (hB : B ≤ w.heap.size)
    (h1 : Reads w B 2 LA ln (ll xs)) (h1' : Reads w B 2 LA' ln' (ll ys)) (h2 : Reads w B 1 RA rn (fl .f32 rs)) (h2' : Reads w B 1 RA' rn' (fl .f32 rs')) (hn : ln ≤ 1099511627776) (hn' : ln' ≤ 1099511627776) (hm : rn ≤ 1099511627776) (hm' : rn' ≤ 1099511627776)
    (wx : ∀ a ∈ xs, Wf .f32 a.1) (wy : ∀ a ∈ ys, Wf .f32 a.1) (wr : ∀ a ∈ rs, Wf .f32 a) (wr' : ∀ a ∈ rs', Wf .f32 a) (w1 : Wf .f32 sh) (w2 : Wf .f32 sc) (w1' : Wf .f32 sh') (w2' : Wf .f32 sc') :
    Calls Tryz.prog 26 #[deskV LA ln lc kd sh sc st RA rn rc sz ac, deskV LA' ln' lc' kd' sh' sc' st' RA' rn' rc' sz' ac'] w fun e w' => e = .returned (.bool (sameDk xs ys kd kd' sh sc sh' sc' st st' rs rs' sz ac sz' ac')) ∧ Below w.heap.size w w' := by
  have R1 := fun o1 o2 => (h1.alloc hB o1).alloc (by simp; omega) o2
  have R1' := fun o1 o2 => (h1'.alloc hB o1).alloc (by simp; omega) o2
  have R2 := fun o1 o2 => (h2.alloc hB o1).alloc (by simp; omega) o2
  have R2' := fun o1 o2 => (h2'.alloc hB o1).alloc (by simp; omega) o2
  cases s1 : sameLv xs ys with
  | false =>
    go_enter Tryz.func26, Tryz.ntmps26
    go_wp2_with (go_at_call 61; refine (i_SameLives (R1 _ _) (R1' _ _) (by simp; omega) (by simp; omega) hn hn' wx wy).mono ?_; rintro e w3 ⟨rfl, hb⟩)
    go_ret
    have hw := fun o1 o2 => ((Below.refl w.heap.size w).alloc (Nat.le_refl _) o1).alloc (by simp) o2
    exact ⟨ret_bool (by unfold sameDk; rw [s1]; rfl), (hw _ _).trans (hb.mono (by simp; omega))⟩
  | true =>
    have T1 := hide s1
    go_enter Tryz.func26, Tryz.ntmps26
    go_wp2_with fail
    refine (i_SameLives (R1 _ _) (R1' _ _) (by simp; omega) (by simp; omega) hn hn' wx wy).mono ?_
    rintro e w3 ⟨rfl, hb⟩
    have q1 := box_cells hb
    have a1 : w3.cell? ⟨w.heap.size, 1, none⟩ = some (.int .i64 kd) := q1.1 1
    have b1 : w3.cell? ⟨w.heap.size + 1, 1, none⟩ = some (.int .i64 kd') := q1.2 1
    have a2 : w3.cell? ⟨w.heap.size, 2, none⟩ = some (.float .f32 sh) := q1.1 2
    have b2 : w3.cell? ⟨w.heap.size + 1, 2, none⟩ = some (.float .f32 sh') := q1.2 2
    have a3 : w3.cell? ⟨w.heap.size, 3, none⟩ = some (.float .f32 sc) := q1.1 3
    have b3 : w3.cell? ⟨w.heap.size + 1, 3, none⟩ = some (.float .f32 sc') := q1.2 3
    have a4 : w3.cell? ⟨w.heap.size, 4, none⟩ = some (.int .i64 st) := q1.1 4
    have b4 : w3.cell? ⟨w.heap.size + 1, 4, none⟩ = some (.int .i64 st') := q1.2 4
    have a5 : w3.cell? ⟨w.heap.size, 5, none⟩ = some (.slice RA rn rc) := q1.1 5
    have b5 : w3.cell? ⟨w.heap.size + 1, 5, none⟩ = some (.slice RA' rn' rc') := q1.2 5
    have a6 : w3.cell? ⟨w.heap.size, 6, none⟩ = some (.int .i64 sz) := q1.1 6
    have b6 : w3.cell? ⟨w.heap.size + 1, 6, none⟩ = some (.int .i64 sz') := q1.2 6
    have a7 : w3.cell? ⟨w.heap.size, 7, none⟩ = some (.int .i64 ac) := q1.1 7
    have b7 : w3.cell? ⟨w.heap.size + 1, 7, none⟩ = some (.int .i64 ac') := q1.2 7
    clear q1
    cases s2 : sameLawB kd kd' sh sc sh' sc' with
    | false =>
      go_wp2_with (go_at_call 62; refine (i_SameLaw w1 w2 w1' w2').mono ?_; rintro e w4 ⟨rfl, hb4⟩)
      replace hb := hb.trans (hb4.mono hb.size)
      go_ret
      have hw := fun o1 o2 => ((Below.refl w.heap.size w).alloc (Nat.le_refl _) o1).alloc (by simp) o2
      exact ⟨ret_bool (by unfold sameDk; rw [T1.out, s2]; rfl), (hw _ _).trans (hb.mono (by simp; omega))⟩
    | true =>
      have T2 := hide s2
      go_wp2_with fail
      refine (i_SameLaw w1 w2 w1' w2').mono ?_
      rintro e w4 ⟨rfl, hb4⟩
      replace hb := hb.trans (hb4.mono hb.size)
      clear hb4 a1 a2 a3 a4 a5 a6 a7 b1 b2 b3 b4 b5 b6 b7
      have q1 := box_cells hb
      have a1 : w4.cell? ⟨w.heap.size, 1, none⟩ = some (.int .i64 kd) := q1.1 1
      have b1 : w4.cell? ⟨w.heap.size + 1, 1, none⟩ = some (.int .i64 kd') := q1.2 1
      have a2 : w4.cell? ⟨w.heap.size, 2, none⟩ = some (.float .f32 sh) := q1.1 2
      have b2 : w4.cell? ⟨w.heap.size + 1, 2, none⟩ = some (.float .f32 sh') := q1.2 2
      have a3 : w4.cell? ⟨w.heap.size, 3, none⟩ = some (.float .f32 sc) := q1.1 3
      have b3 : w4.cell? ⟨w.heap.size + 1, 3, none⟩ = some (.float .f32 sc') := q1.2 3
      have a4 : w4.cell? ⟨w.heap.size, 4, none⟩ = some (.int .i64 st) := q1.1 4
      have b4 : w4.cell? ⟨w.heap.size + 1, 4, none⟩ = some (.int .i64 st') := q1.2 4
      have a5 : w4.cell? ⟨w.heap.size, 5, none⟩ = some (.slice RA rn rc) := q1.1 5
      have b5 : w4.cell? ⟨w.heap.size + 1, 5, none⟩ = some (.slice RA' rn' rc') := q1.2 5
      have a6 : w4.cell? ⟨w.heap.size, 6, none⟩ = some (.int .i64 sz) := q1.1 6
      have b6 : w4.cell? ⟨w.heap.size + 1, 6, none⟩ = some (.int .i64 sz') := q1.2 6
      have a7 : w4.cell? ⟨w.heap.size, 7, none⟩ = some (.int .i64 ac) := q1.1 7
      have b7 : w4.cell? ⟨w.heap.size + 1, 7, none⟩ = some (.int .i64 ac') := q1.2 7
      clear q1
      have hsz := hb.size
      simp at hsz
      cases s3 : sameCh st st' rs rs' with
      | false =>
        go_wp2_with (go_at_call 63; refine (i_SameChain ((R2 _ _).below (hb.mono (by simp; omega))) ((R2' _ _).below (hb.mono (by simp; omega))) (by omega) (by omega) hm hm' wr wr').mono ?_; rintro e w5 ⟨rfl, hb5⟩)
        replace hb := hb.trans (hb5.mono hb.size)
        go_ret
        have hw := fun o1 o2 => ((Below.refl w.heap.size w).alloc (Nat.le_refl _) o1).alloc (by simp) o2
        exact ⟨ret_bool (by unfold sameDk; rw [T1.out, T2.out, s3]; rfl), (hw _ _).trans (hb.mono (by simp; omega))⟩
      | true =>
        have T3 := hide s3
        go_wp2_with fail
        refine (i_SameChain ((R2 _ _).below (hb.mono (by simp; omega))) ((R2' _ _).below (hb.mono (by simp; omega))) (by omega) (by omega) hm hm' wr wr').mono ?_
        rintro e w5 ⟨rfl, hb5⟩
        replace hb := hb.trans (hb5.mono hb.size)
        clear hb5 a1 a2 a3 a4 a5 a6 a7 b1 b2 b3 b4 b5 b6 b7
        have q1 := box_cells hb
        have a1 : w5.cell? ⟨w.heap.size, 1, none⟩ = some (.int .i64 kd) := q1.1 1
        have b1 : w5.cell? ⟨w.heap.size + 1, 1, none⟩ = some (.int .i64 kd') := q1.2 1
        have a2 : w5.cell? ⟨w.heap.size, 2, none⟩ = some (.float .f32 sh) := q1.1 2
        have b2 : w5.cell? ⟨w.heap.size + 1, 2, none⟩ = some (.float .f32 sh') := q1.2 2
        have a3 : w5.cell? ⟨w.heap.size, 3, none⟩ = some (.float .f32 sc) := q1.1 3
        have b3 : w5.cell? ⟨w.heap.size + 1, 3, none⟩ = some (.float .f32 sc') := q1.2 3
        have a4 : w5.cell? ⟨w.heap.size, 4, none⟩ = some (.int .i64 st) := q1.1 4
        have b4 : w5.cell? ⟨w.heap.size + 1, 4, none⟩ = some (.int .i64 st') := q1.2 4
        have a5 : w5.cell? ⟨w.heap.size, 5, none⟩ = some (.slice RA rn rc) := q1.1 5
        have b5 : w5.cell? ⟨w.heap.size + 1, 5, none⟩ = some (.slice RA' rn' rc') := q1.2 5
        have a6 : w5.cell? ⟨w.heap.size, 6, none⟩ = some (.int .i64 sz) := q1.1 6
        have b6 : w5.cell? ⟨w.heap.size + 1, 6, none⟩ = some (.int .i64 sz') := q1.2 6
        have a7 : w5.cell? ⟨w.heap.size, 7, none⟩ = some (.int .i64 ac) := q1.1 7
        have b7 : w5.cell? ⟨w.heap.size + 1, 7, none⟩ = some (.int .i64 ac') := q1.2 7
        clear q1
        go_wp2_with fail
        refine i_SamePlan.mono ?_
        rintro e w6 ⟨rfl, hb6⟩
        replace hb := hb.trans (hb6.mono hb.size)
        go_wp2
        go_ret
        have hw := fun o1 o2 => ((Below.refl w.heap.size w).alloc (Nat.le_refl _) o1).alloc (by simp) o2
        exact ⟨ret_bool (by unfold sameDk; rw [T1.out, T2.out, T3.out]; rfl), (hw _ _).trans (hb.mono (by simp; omega))⟩
end Go.Proofs.YtjmpldcnhjgpkaaGreatDoor

/-
  Contracts of 'valid' for lives, laws, chains, plans: the program's.
-/
namespace Go.Proofs.YtjmpldcnhjgpkaaGreatDoor
open Go.RowKit Fl Mem
set_option linter.unusedVariables false
set_option maxRecDepth 100000

def geF (x c : Nat) : Bool := FloatKind.f32.format.order x c == some .gt || FloatKind.f32.format.order x c == some .eq
def leF (x c : Nat) : Bool := FloatKind.f32.format.order x c == some .lt || FloatKind.f32.format.order x c == some .eq
def zeroF (x : Nat) : Bool := FloatKind.f32.format.order x 0 == some .eq
def leastF (x : Nat) : Bool := fin .f32 x && geF x 0
def livesOk (xs : List (Nat × Bool)) : Bool := decide (1 ≤ xs.length) && (decide (xs.length ≤ 48) && xs.all fun p => pos p.1)
def lawOk (kd : Int) (sh sc : Nat) : Bool := inB kd 0 3 && (geF sh 981668463 && (leF sh 1148846080 && (geF sc 981668463 && leF sc 1148846080)))
def planOk (sz ac : Int) : Bool := inB sz 1 40 && inB ac 0 sz
/-- Are the numbers of a chain from a state to itself nought. -/
def diagOk (rs : List Nat) (s : Nat) : Bool := (List.range s).all fun j => zeroF (rs.getD (j * s + j) 0)
def chainOk (st : Int) (rs : List Nat) : Bool := inB st 1 8 && (decide ((rs.length : Int) = st * st) && (rs.all leastF && diagOk rs st.toNat))

set_option maxHeartbeats 1000000 in
theorem i_ValidPlan {a b : Int} {w : World} : Calls Tryz.prog 33 #[.agg #[.int .i64 a, .int .i64 b]] w fun e w' => e = .returned (.bool (planOk a b)) ∧ Below w.heap.size w w' := by
  cases h1 : inB a 1 40 with
  | false =>
    go_enter Tryz.func33, Tryz.ntmps33
    go_wp2_with (go_at_call 54; refine (i_within _ _ _ _).mono ?_; rintro e w' ⟨rfl, rfl⟩)
    go_ret
    exact ⟨ret_bool (by unfold planOk; rw [h1]; rfl), (by repeat (first | exact Below.refl _ _ | exact below_drewN (by assumption) _ | refine below_drewN ?_ _ | refine Below.alloc ?_ (by first | (simp; done) | (simp; omega)) _ | assumption))⟩
  | true =>
    go_enter Tryz.func33, Tryz.ntmps33
    go_wp2_with (go_at_call 54; refine (i_within _ _ _ _).mono ?_; rintro e w' ⟨rfl, rfl⟩)
    go_ret
    exact ⟨ret_bool (by unfold planOk; rw [h1]; rfl), (by repeat (first | exact Below.refl _ _ | exact below_drewN (by assumption) _ | refine below_drewN ?_ _ | refine Below.alloc ?_ (by first | (simp; done) | (simp; omega)) _ | assumption))⟩
set_option maxHeartbeats 2000000 in
theorem i_ValidLaw {kd : Int} {sh sc : Nat} {w : World} : Calls Tryz.prog 30 #[.agg #[.int .i64 kd, .float .f32 sh, .float .f32 sc]] w fun e w' => e = .returned (.bool (lawOk kd sh sc)) ∧ Below w.heap.size w w' := by
  go_enter Tryz.func30, Tryz.ntmps30
  go_wp2_with (go_at_call 54; refine (i_within _ _ _ _).mono ?_; rintro e w' ⟨rfl, rfl⟩)
  all_goals
    go_ret
    exact ⟨ret_bool (by unfold lawOk geF leF; rw [Bool.eq_iff_iff]; simp [*]), (by repeat (first | exact Below.refl _ _ | exact below_drewN (by assumption) _ | refine below_drewN ?_ _ | refine Below.alloc ?_ (by first | (simp; done) | (simp; omega)) _ | assumption))⟩

set_option maxHeartbeats 1000000 in
theorem i_AreLives_1 {a : Nat} {b : Bool} {w : World} : Calls Tryz.prog 71 #[.agg #[.float .f32 a, .bool b]] w fun e w' => e = .returned (.bool (!pos a)) ∧ Below w.heap.size w w' := by
  go_enter Tryz.func71, Tryz.ntmps71
  go_wp2_with (go_at_call 72; refine (i_areMore1 _ _ _ _ (by simp)).mono ?_; rintro e w' ⟨rfl, m, rfl⟩)
  go_ret
  exact ⟨rfl, (by repeat (first | exact Below.refl _ _ | exact below_drewN (by assumption) _ | refine below_drewN ?_ _ | refine Below.alloc ?_ (by first | (simp; done) | (simp; omega)) _ | assumption))⟩

set_option maxHeartbeats 1000000 in
theorem indexFunc_lives {A : Option Addr} {n c B : Nat} {xs : List (Nat × Bool)} {w : World} (h : Reads w B 2 A n (ll xs)) (hB : B ≤ w.heap.size) (hn : n ≤ 1099511627776) :
    Calls Tryz.prog 104 #[.slice A n c, .func (.func 71) #[] #[]] w fun e w' => e = .returned (.int .i64 (ixf (fun p : Nat × Bool => !pos p.1) xs)) ∧ Below w.heap.size w w' := by
  have Hlen := hide (lives_len h)
  go_enter Tryz.func104, Tryz.ntmps104
  go_wp2
  go_loopw [5, 8] (fun _ i wr => ∃ k : Nat, k ≤ n ∧ i = .int .i64 k ∧ Below w.heap.size w wr ∧ Hid ((xs.take k).all (fun y => !!pos y.1) = true)) (fun _ i _ => n - (intOf i).toNat)
  case atStart => exact ⟨0, Nat.zero_le _, rfl, Below.refl _ _, rfl⟩
  case round =>
    obtain ⟨k, hk, rfl, hbel, ha⟩ := hrel
    have hsz := hbel.size
    by_cases hlt : k < n
    · obtain ⟨ad, p, rfl, hab, hx, hc, hc2⟩ := reads_ll (h.below (hbel.mono hB)) hlt
      have hc2b : wr.cell? ⟨(ad.add (k * 2)).block, (ad.add (k * 2)).off + 1, none⟩ = some (.bool p.2) := hc2
      have Hx := hide hx
      clear hx
      cases hp : pos p.1 with
      | false =>
        go_wp2_with (go_at_call 71; refine i_AreLives_1.mono ?_; rintro e w1 ⟨rfl, hb⟩)
        go_ret
        exact ⟨ret_int (ixf_at Hx.out ha.out (by rw [hp]; rfl)).symm, hbel.trans (hb.mono hsz)⟩
      | true =>
        go_wp2_with (go_at_call 71; refine i_AreLives_1.mono ?_; rintro e w1 ⟨rfl, hb⟩)
        have hbel1 : Below w.heap.size w w1 := hbel.trans (hb.mono hsz)
        go_roundw
        case rel => exact ⟨k + 1, by omega, by go_num, hbel1, hide (by rw [take_eq Hx.out, List.all_append, ha.out]; simp [hp])⟩
        case measure => simp [intOf]; omega
    · go_wp2
      go_ret
      refine ⟨ret_int (ixf_none ?_).symm, hbel⟩
      rw [← ha.out, List.take_of_length_le (by rw [Hlen.out]; omega)]
theorem containsFunc_lives {A : Option Addr} {n c B : Nat} {xs : List (Nat × Bool)} {w : World} (h : Reads w B 2 A n (ll xs)) (hB : B ≤ w.heap.size) (hn : n ≤ 1099511627776) :
    Calls Tryz.prog 70 #[.slice A n c, .func (.func 71) #[] #[]] w fun e w' => e = .returned (.bool (xs.any (fun p : Nat × Bool => !pos p.1))) ∧ Below w.heap.size w w' := by
  go_enter Tryz.func70, Tryz.ntmps70
  go_wp2_with (go_at_call 104; refine (indexFunc_lives h hB hn).mono ?_; rintro e w1 ⟨rfl, hb⟩)
  go_ret
  refine ⟨ret_bool ?_, hb⟩
  rw [← ixf_ge]
set_option maxHeartbeats 1000000 in
theorem i_AreLives {A : Option Addr} {n c B : Nat} {xs : List (Nat × Bool)} {w : World} (h : Reads w B 2 A n (ll xs)) (hB : B ≤ w.heap.size) (hn : n ≤ 1099511627776) :
    Calls Tryz.prog 29 #[.slice A n c] w fun e w' => e = .returned (.bool (livesOk xs)) ∧ Below w.heap.size w w' := by
  have Hl := hide (lives_len h)
  by_cases h1 : 1 ≤ n
  · by_cases h2 : n ≤ 48
    · have Hs : Hid (livesOk xs = !(xs.any (fun p : Nat × Bool => !pos p.1))) := hide (by unfold livesOk; rw [Hl.out, decide_eq_true h1, decide_eq_true h2, List.all_eq_not_any_not]; rfl)
      have b1 : (1 : Int) ≤ (n : Int) := by omega
      have b2 : (n : Int) ≤ 48 := by omega
      clear h1 h2
      go_enter Tryz.func29, Tryz.ntmps29
      go_wp2_with (go_at_call 70; refine (containsFunc_lives h hB hn).mono ?_; rintro e w1 ⟨rfl, hb⟩)
      go_ret
      exact ⟨ret_bool Hs.out.symm, hb⟩
    · have Hs : Hid (livesOk xs = false) := hide (by unfold livesOk; rw [Hl.out, decide_eq_false h2]; simp)
      have b1 : (1 : Int) ≤ (n : Int) := by omega
      have b2 : ¬ (n : Int) ≤ 48 := by omega
      clear h1 h2
      go_enter Tryz.func29, Tryz.ntmps29
      go_wp2
      go_ret
      exact ⟨ret_bool Hs.out.symm, Below.refl _ _⟩
  · have Hs : Hid (livesOk xs = false) := hide (by unfold livesOk; rw [Hl.out, decide_eq_false h1]; rfl)
    have b1 : ¬ (1 : Int) ≤ (n : Int) := by omega
    clear h1
    go_enter Tryz.func29, Tryz.ntmps29
    go_wp2
    go_ret
    exact ⟨ret_bool Hs.out.symm, Below.refl _ _⟩

theorem areNotLess_1 (x : Nat) (w : World) : Calls Tryz.prog 107 #[.float .f32 x] w fun e w' => e = .returned (.bool (!leastF x)) ∧ ∃ n, w' = w.drewN n := by
  have hp : Hid (leastF x = (fin .f32 x && (FloatKind.f32.format.order x 0 == some .gt || FloatKind.f32.format.order x 0 == some .eq))) := hide rfl
  cases hf : fin .f32 x
  all_goals
    go_enter Tryz.func107, Tryz.ntmps107
    go_wp2_with (go_at_call 83; refine (i_IsFinite _ _).mono ?_; rintro e w' ⟨rfl, m', rfl⟩)
    go_ret
    exact ⟨ret_bool (by rw [hp.out, hf]; simp), _, rfl⟩

set_option maxHeartbeats 400000 in
theorem indexFunc_areNotLess (A : Option Addr) (n c : Nat) (xs : List Nat) (B : Nat) (w : World) (h : Reads w B 1 A n (fl .f32 xs)) (hn : n ≤ maxLen) :
    Calls Tryz.prog 129 #[.slice A n c, .func (.func 107) #[] #[]] w fun e w' => e = .returned (.int .i64 (ixf (fun x => !leastF x) xs)) ∧ ∃ n, w' = w.drewN n := by
  unfold maxLen at hn
  have Hlen := hide h.map_len
  go_enter Tryz.func129, Tryz.ntmps129
  go_wp2
  go_loopw [5, 8] (fun _ i wr => ∃ k m : Nat, k ≤ n ∧ i = .int .i64 k ∧ wr = w.drewN m ∧ Hid ((xs.take k).all (fun y => !!leastF y) = true)) (fun _ i _ => n - (intOf i).toNat)
  case atStart => exact ⟨0, 0, Nat.zero_le _, rfl, rfl, rfl⟩
  case round =>
    obtain ⟨k, m, hk, rfl, rfl, ha⟩ := hrel
    by_cases hlt : k < n
    · obtain ⟨ad, x, rfl, _, hx, hc⟩ := h.map_at hlt
      have Hx := hide hx
      clear hx
      go_wp2_with (go_at_call 107; refine (areNotLess_1 _ _).mono ?_; rintro e w' ⟨rfl, m', rfl⟩)
      · rename_i h0
        go_ret
        exact ⟨ret_int (ixf_at Hx.out ha.out h0).symm, _, rfl⟩
      · rename_i h0
        go_roundw
        case rel => exact ⟨k + 1, _, by omega, by go_num, rfl, hide (by rw [take_eq Hx.out, List.all_append, ha.out]; simp at h0; simp [h0])⟩
        case measure => simp [intOf]; omega
    · go_wp2
      go_ret
      refine ⟨ret_int (ixf_none ?_).symm, _, rfl⟩
      rw [← ha.out, List.take_of_length_le (by rw [Hlen.out]; omega)]
theorem containsFunc_areNotLess (A : Option Addr) (n c : Nat) (xs : List Nat) (B : Nat) (w : World) (h : Reads w B 1 A n (fl .f32 xs)) (hn : n ≤ maxLen) :
    Calls Tryz.prog 105 #[.slice A n c, .func (.func 107) #[] #[]] w fun e w' => e = .returned (.bool (xs.any (fun x => !leastF x))) ∧ ∃ n, w' = w.drewN n := by
  go_enter Tryz.func105, Tryz.ntmps105
  go_wp2_with (go_at_call 129; refine (indexFunc_areNotLess _ _ _ xs _ _ h hn).mono ?_; rintro e w' ⟨rfl, m', rfl⟩)
  go_ret
  refine ⟨ret_bool ?_, _, rfl⟩
  rw [← ixf_ge]
theorem i_areNotLess (A : Option Addr) (n c : Nat) (xs : List Nat) (B : Nat) (w : World) (h : Reads w B 1 A n (fl .f32 xs)) (hn : n ≤ maxLen) :
    Calls Tryz.prog 73 #[.slice A n c] w fun e w' => e = .returned (.bool (xs.all leastF)) ∧ ∃ n, w' = w.drewN n := by
  go_enter Tryz.func73, Tryz.ntmps73
  go_wp2_with (go_at_call 105; refine (containsFunc_areNotLess _ _ _ xs _ _ h hn).mono ?_; rintro e w' ⟨rfl, m', rfl⟩)
  go_ret
  refine ⟨ret_bool ?_, _, rfl⟩
  rw [List.all_eq_not_any_not]

set_option maxHeartbeats 1000000 in
theorem i_rate {st : Int} {A : Option Addr} {n c B k j m : Nat} {xs : List Nat} {w : World} (h : Reads w B 1 A n (fl .f32 xs)) (hB : B ≤ w.heap.size) (hn : n ≤ 1048576) (hm : (k : Int) * st = (m : Int)) (hj : m + j < n) :
    Calls Tryz.prog 48 #[.agg #[.int .i64 st, .slice A n c], .int .i64 (k : Int), .int .i64 (j : Int)] w fun e w' => e = .returned (.float .f32 (xs.getD (m + j) 0)) ∧ Below w.heap.size w w' := by
  obtain ⟨ad, x, rfl, hab, hx, hc⟩ := h.map_at hj
  have hc' : ∀ o, (w.alloc o).cell? (ad.add (m + j)) = some (.float .f32 x) := fun o => by rw [← hc]; exact World.cell?_alloc_lt _ _ _ (by rw [block_of_add]; omega)
  have hg : xs.getD (m + j) 0 = x := by rw [List.getD_eq_getElem?_getD, hx]; rfl
  have Hg := hide hg
  have i1 : (m : Int) + (j : Int) < (n : Int) := by omega
  clear hx hg
  go_enter Tryz.func48, Tryz.ntmps48
  go_wp2
  go_ret
  exact ⟨by rw [Hg.out]; rfl, (by repeat (first | exact Below.refl _ _ | exact below_drewN (by assumption) _ | refine below_drewN ?_ _ | refine Below.alloc ?_ (by first | (simp; done) | (simp; omega)) _ | assumption))⟩

theorem diag_lt {k s : Nat} (h : k < s) : k * s + k < s * s := by
  have := Nat.mul_le_mul_right s (show k + 1 ≤ s from h)
  rw [Nat.add_mul, Nat.one_mul] at this
  omega
theorem diagOk_iff {rs : List Nat} {s : Nat} : diagOk rs s = true ↔ ∀ j, j < s → zeroF (rs.getD (j * s + j) 0) = true := by
  unfold diagOk
  simp [List.all_eq_true, List.mem_range]
theorem chainOk_len {st : Int} {rs : List Nat} (h : ¬ (rs.length : Int) = st * st) : chainOk st rs = false := by
  unfold chainOk
  rw [decide_eq_false h]; simp
set_option maxHeartbeats 2000000 in
theorem i_ValidChain {st : Int} {A : Option Addr} {n c B : Nat} {xs : List Nat} {w : World} (h : Reads w B 1 A n (fl .f32 xs)) (hB : B ≤ w.heap.size) (hn : n ≤ 1048576) :
    Calls Tryz.prog 32 #[.agg #[.int .i64 st, .slice A n c]] w fun e w' => e = .returned (.bool (chainOk st xs)) ∧ Below w.heap.size w w' := by
  have Hl := hide h.map_len
  cases hb : inB st 1 8 with
  | false =>
    have Hs : Hid (chainOk st xs = false) := hide (by unfold chainOk; rw [hb]; rfl)
    go_enter Tryz.func32, Tryz.ntmps32
    go_wp2_with (go_at_call 54; refine (i_within _ _ _ _).mono ?_; rintro e w' ⟨rfl, rfl⟩)
    go_ret
    exact ⟨ret_bool Hs.out.symm, (by repeat (first | exact Below.refl _ _ | exact below_drewN (by assumption) _ | refine below_drewN ?_ _ | refine Below.alloc ?_ (by first | (simp; done) | (simp; omega)) _ | assumption))⟩
  | true =>
    have hin := inB_iff.1 hb
    obtain ⟨s, rfl⟩ := Int.eq_ofNat_of_zero_le (show 0 ≤ st by omega)
    have hs1 : 1 ≤ s := by omega
    have hs2 : s ≤ 8 := by omega
    have hq64 : s * s ≤ 64 := Nat.mul_le_mul hs2 hs2
    obtain ⟨q, hq⟩ : ∃ q, s * s = q := ⟨_, rfl⟩
    have hmul : (s : Int) * (s : Int) = (q : Int) := by rw [← hq]; push_cast; rfl
    have Hq := hide hq
    rw [hq] at hq64
    clear hq hin
    have R1 := fun o => h.alloc hB o
    by_cases hlen : n = q
    · subst hlen
      have hne : ((n : Int) != (n : Int)) = false := by simp
      have Hs : Hid (chainOk (s : Int) xs = (xs.all leastF && diagOk xs s)) := hide (by unfold chainOk; rw [hb, Hl.out, decide_eq_true hmul.symm]; simp)
      cases hall : xs.all leastF with
      | false =>
        go_enter Tryz.func32, Tryz.ntmps32
        go_wp2_with (first | (go_at_call 54; refine (i_within _ _ _ _).mono ?_; rintro e w' ⟨rfl, rfl⟩) | (go_at_call 73; refine (i_areNotLess _ _ _ xs _ _ (R1 _) (by simp [maxLen]; omega)).mono ?_; rintro e w' ⟨rfl, m, rfl⟩))
        go_ret
        exact ⟨ret_bool (by rw [Hs.out, hall]; rfl), (by repeat (first | exact Below.refl _ _ | exact below_drewN (by assumption) _ | refine below_drewN ?_ _ | refine Below.alloc ?_ (by first | (simp; done) | (simp; omega)) _ | assumption))⟩
      | true =>
        have Hall := hide hall
        go_enter Tryz.func32, Tryz.ntmps32
        go_wp2_with (first | (go_at_call 54; refine (i_within _ _ _ _).mono ?_; rintro e w' ⟨rfl, rfl⟩) | (go_at_call 73; refine (i_areNotLess _ _ _ xs _ _ (R1 _) (by simp [maxLen]; omega)).mono ?_; rintro e w' ⟨rfl, m, rfl⟩))
        go_loopw [27] (fun i wr => ∃ k : Nat, k ≤ s ∧ i = .int .i64 k ∧ wr.cell? ⟨w.heap.size, 0, none⟩ = some (.int .i64 s) ∧ wr.cell? ⟨w.heap.size, 1, none⟩ = some (.slice A n c) ∧ w.heap.size < wr.heap.size ∧ Below w.heap.size w wr ∧ Hid (∀ j, j < k → zeroF (xs.getD (j * s + j) 0) = true)) (fun i _ => s - (intOf i).toNat)
        case atStart => exact ⟨0, Nat.zero_le _, rfl, (by first | (simp; done) | rfl), (by first | (simp; done) | rfl), (by simp), (by repeat (first | exact Below.refl _ _ | exact below_drewN (by assumption) _ | refine below_drewN ?_ _ | refine Below.alloc ?_ (by first | (simp; done) | (simp; omega)) _ | assumption)), hide (fun j hj => absurd hj (by omega))⟩
        case round =>
          obtain ⟨k, hk, rfl, hc0, hc1, hsz, hbel, ha⟩ := hrel
          by_cases hlt : k < s
          · obtain ⟨m, hm⟩ : ∃ m, k * s = m := ⟨_, rfl⟩
            have hd := diag_lt hlt
            rw [Hq.out, hm] at hd
            have Hm := hide hm
            have hmi : (k : Int) * (s : Int) = (m : Int) := by rw [← hm]; push_cast; rfl
            clear hm
            have i1 : (k : Int) < (s : Int) := by omega
            have hr := h.below (hbel.mono hB)
            go_wp2_with (go_at_call 48; refine (i_rate (k := k) (j := k) hr (by omega) hn hmi hd).mono ?_; rintro e w1 ⟨rfl, hb1⟩)
            · rename_i h0
              go_ret
              refine ⟨ret_bool ?_, hbel.trans (hb1.mono (by omega))⟩
              rw [Hs.out]
              cases hdg : diagOk xs s with
              | false => simp
              | true =>
                have := diagOk_iff.1 hdg k hlt
                rw [Hm.out] at this; simp at h0; simp [zeroF, h0] at this
            · rename_i h0
              go_roundw
              case rel => exact ⟨k + 1, by omega, by go_num, (hb1.cell hsz).trans hc0, (hb1.cell hsz).trans hc1, Nat.lt_of_lt_of_le hsz hb1.size, hbel.trans (hb1.mono (by omega)), hide (fun j hj => by
                rcases Nat.lt_or_ge j k with hjk | hjk
                · exact ha.out j hjk
                · obtain rfl : j = k := by omega
                  rw [Hm.out]; simp at h0; simp [zeroF, h0])⟩
              case measure => simp [intOf]; omega
          · go_wp2
            go_ret
            obtain rfl : k = s := by omega
            exact ⟨ret_bool (by rw [Hs.out, Hall.out, diagOk_iff.2 ha.out]; rfl), hbel⟩
    · have hne : ((n : Int) != (q : Int)) = true := by simp; omega
      have Hs : Hid (chainOk (s : Int) xs = false) := hide (chainOk_len (by rw [Hl.out, hmul]; omega))
      clear hlen
      go_enter Tryz.func32, Tryz.ntmps32
      go_wp2_with (go_at_call 54; refine (i_within _ _ _ _).mono ?_; rintro e w' ⟨rfl, rfl⟩)
      go_ret
      exact ⟨ret_bool Hs.out.symm, (by repeat (first | exact Below.refl _ _ | exact below_drewN (by assumption) _ | refine below_drewN ?_ _ | refine Below.alloc ?_ (by first | (simp; done) | (simp; omega)) _ | assumption))⟩
end Go.Proofs.YtjmpldcnhjgpkaaGreatDoor
