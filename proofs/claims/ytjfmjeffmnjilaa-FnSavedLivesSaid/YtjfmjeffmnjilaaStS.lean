/-
  The bytes of a system with a signal: the reference's walk.
-/
import Derived.Test.YtjfmjeffmnjilaaStI
namespace Go.Proofs.Ytjfmjeffmnjilaa
open Go.RowKit Fl Mem
set_option linter.unusedVariables false
set_option maxRecDepth 100000

theorem two_bytes {q : Nat} (h : q < 65536) : [Value.int .u8 (IntKind.u8.wrap ((q : Int).tmod 256)), Value.int .u8 (IntKind.u8.wrap (IntKind.i64.wrap ((q : Int) / 256)))] = ub (leB q 2) := by
  have e1 : IntKind.u8.wrap ((q : Int).tmod 256) = ((UInt8.ofNat q).toNat : Int) := by
    rw [IntKind.wrap_u8, Int.tmod_eq_emod_of_nonneg (by omega)]
    simp
  have e2 : IntKind.u8.wrap (IntKind.i64.wrap ((q : Int) / 256)) = ((UInt8.ofNat (q / 256)).toNat : Int) := by
    rw [IntKind.wrap_u8, IntKind.wrap_i64]
    simp
    omega
  rw [e1, e2]
  rfl
theorem four_bytes {q : Nat} (h : q < 4294967296) : [Value.int .u8 ((q : Int) % 256), Value.int .u8 ((q : Int) / 256 % 256), Value.int .u8 ((q : Int) / 65536 % 256), Value.int .u8 ((q : Int) / 16777216)] = ub (leB q 4) := by
  have e1 : (q : Int) % 256 = ((UInt8.ofNat q).toNat : Int) := by simp
  have e2 : (q : Int) / 256 % 256 = ((UInt8.ofNat (q / 256)).toNat : Int) := by simp
  have e3 : (q : Int) / 65536 % 256 = ((UInt8.ofNat (q / 256 / 256)).toNat : Int) := by simp; omega
  have e4 : (q : Int) / 16777216 = ((UInt8.ofNat (q / 256 / 256 / 256)).toNat : Int) := by simp; omega
  rw [e1, e2, e3, e4]
  rfl
theorem two_bytes' {q : Nat} (h : q < 65003) : [Value.int .u8 ((q : Int) % 256), Value.int .u8 ((q : Int) / 256)] = ub (leB q 2) := by
  have e1 : (q : Int) % 256 = ((UInt8.ofNat q).toNat : Int) := by simp
  have e2 : (q : Int) / 256 = ((UInt8.ofNat (q / 256)).toNat : Int) := by simp; omega
  rw [e1, e2]
  rfl
theorem wpList_append2 {P : Program} {w0 w : World} {ops : Array Oper} {rest : List Oper} {o : Oper} {a : Act} {Q : Exit → Act → World → Prop} (hgd : o.guard = none) (s x : Operand) (t : TypeId)
    (ho : o.op = .call { callee := .builtin .append, args := #[s, x], argTypes := #[t, t] })
    (base : Nat) (e : TypeId) (z u1 u2 : Value) (by_ : Nat) (hI : (P.info? e).map (fun i => (i.zero, i.size, i.bytes)) = some (some z, 1, by_)) (ht : P.underlying t = some (.slice e)) (hz : z.cells.size = 1)
    (hw : w = w0.alloc (.cells #[u1, u2] e)) (v : Value) (n : Nat) (xs : List Value) (hs : a.eval s = v) (hown : w0.ownsRow base e 1 v n xs)
    (hx : a.eval x = .slice (some ⟨w0.heap.size, 0, none⟩) 2 2) (h1 : u1.oneCell' = true) (h2 : u2.oneCell' = true)
    (hn : n + 2 < 1099511627776) (hby : by_ ≤ 64) (hbase : base ≤ w0.heap.size)
    (h : ∀ v' w', w'.ownsRow base e 1 v' (n + 2) (xs ++ [u1, u2]) → Below base w0 w' → wpList P ops Q rest (a.put o.dst v') w') : wpList P ops Q (o :: rest) a w := by
  subst hw
  exact wpList_appendM hgd s x t ho base e z by_ hI ht hz v n xs hs (hown.alloc _) ⟨w0.heap.size, 0, none⟩ 2 2 [u1, u2] hx rfl cells2 (fun u hu => by
    simp only [List.mem_cons, List.not_mem_nil, or_false] at hu
    rcases hu with rfl | rfl
    · exact h1
    · exact h2) hn hby (by rw [World.size_alloc]; omega) (fun v' w' k1 k2 => h v' w' k1 (((Below.refl _ _).alloc hbase _).grown k2 (by rw [World.size_alloc]; omega) (fun g hgg => (hown.lt g hgg).1)))
theorem cells4 {w : World} {e : TypeId} {u1 u2 u3 u4 : Value} : ∀ j u, [u1, u2, u3, u4][j]? = some u → (w.alloc (.cells #[u1, u2, u3, u4] e)).cell? ((⟨w.heap.size, 0, none⟩ : Addr).add j) = some u := by
  intro j u hu
  rw [Addr.add_lit, Nat.zero_add, World.cell?_alloc_mark]
  simpa using hu
theorem wpList_append4 {P : Program} {w0 w : World} {ops : Array Oper} {rest : List Oper} {o : Oper} {a : Act} {Q : Exit → Act → World → Prop} (hgd : o.guard = none) (s x : Operand) (t : TypeId)
    (ho : o.op = .call { callee := .builtin .append, args := #[s, x], argTypes := #[t, t] })
    (base : Nat) (e : TypeId) (z u1 u2 u3 u4 : Value) (by_ : Nat) (hI : (P.info? e).map (fun i => (i.zero, i.size, i.bytes)) = some (some z, 1, by_)) (ht : P.underlying t = some (.slice e)) (hz : z.cells.size = 1)
    (hw : w = w0.alloc (.cells #[u1, u2, u3, u4] e)) (v : Value) (n : Nat) (xs : List Value) (hs : a.eval s = v) (hown : w0.ownsRow base e 1 v n xs)
    (hx : a.eval x = .slice (some ⟨w0.heap.size, 0, none⟩) 4 4) (h1 : u1.oneCell' = true) (h2 : u2.oneCell' = true) (h3 : u3.oneCell' = true) (h4 : u4.oneCell' = true)
    (hn : n + 4 < 1099511627776) (hby : by_ ≤ 64) (hbase : base ≤ w0.heap.size)
    (h : ∀ v' w', w'.ownsRow base e 1 v' (n + 4) (xs ++ [u1, u2, u3, u4]) → Below base w0 w' → wpList P ops Q rest (a.put o.dst v') w') : wpList P ops Q (o :: rest) a w := by
  subst hw
  exact wpList_appendM hgd s x t ho base e z by_ hI ht hz v n xs hs (hown.alloc _) ⟨w0.heap.size, 0, none⟩ 4 4 [u1, u2, u3, u4] hx rfl cells4 (fun u hu => by
    simp only [List.mem_cons, List.not_mem_nil, or_false] at hu
    rcases hu with rfl | rfl | rfl | rfl
    · exact h1
    · exact h2
    · exact h3
    · exact h4) hn hby (by rw [World.size_alloc]; omega) (fun v' w' k1 k2 => h v' w' k1 (((Below.refl _ _).alloc hbase _).grown k2 (by rw [World.size_alloc]; omega) (fun g hgg => (hown.lt g hgg).1)))
theorem svOk_drewN {w : World} {B : Nat} {s : Sv} (h : SvOk w B s) (m : Nat) : SvOk (w.drewN m) B s := ⟨h.paths.drewN m, h.sig.drewN m, h.wf, h.wfi, h.wfp⟩
theorem bytes_of (w : World) (s : ByteArray) : ∃ cap W, (convert 9 51 (.string s)).run Try.prog w = .ok (.slice (some ⟨w.heap.size, 0, none⟩) s.size cap) W ∧ Below w.heap.size w W ∧ ∀ j u, (ub s.data.toList)[j]? = some u → W.cell? ((⟨w.heap.size, 0, none⟩ : Addr).add j) = some u := by
  refine ⟨_, _, run_bytes_of_string w 9 51 5 s Try.underlying9 Try.underlying51 Try.underlying5, (Below.refl _ _).drew.alloc (Nat.le_refl _) _, fun j u hu => ?_⟩
  rw [List.getElem?_map, Option.map_eq_some_iff] at hu
  obtain ⟨a, ha, rfl⟩ := hu
  obtain ⟨hj, rfl⟩ := List.getElem?_eq_some_iff.1 ha
  have hj' : j < s.data.size := by simpa using hj
  rw [Addr.add_lit, Nat.zero_add]
  exact (World.cell?_alloc_mark w.drew _ _ _ j).trans (bytesRow_at s _ j hj')
set_option maxHeartbeats 4000000 in
theorem s_l07Store {nm : ByteArray} {parts : Int} {PA SA : Option Addr} {pn pc sn sc B : Nat} {p : Addr} {ps : List Int} {xs : List Nat} {w : World} (c0 : w.cell? p = some (.string nm)) (c1 : w.cell? ⟨p.block, p.off + 1, none⟩ = some (.int .i64 parts)) (c2 : w.cell? ⟨p.block, p.off + 2, none⟩ = some (.slice PA pn pc)) (c3 : w.cell? ⟨p.block, p.off + 3, none⟩ = some (.slice SA sn sc))
    (hb : p.block < w.heap.size) (h : SvOk w B ⟨nm, parts, PA, pn, pc, ps, SA, sn, sc, xs⟩) (hB : B ≤ w.heap.size) (hv : svB ⟨nm, parts, PA, pn, pc, ps, SA, sn, sc, xs⟩ = true) :
    Calls Try.prog 53 #[.pointer (some p)] w fun e w' => e = .returned (.string (stored nm parts ps xs)) ∧ Below w.heap.size w w' := by
  obtain ⟨q1, q2, q3, q4, q5, q6, q7, q8, q9, q10⟩ := svB_short hv
  dsimp only at q1 q2 q3 q4 q5 q6 q7 q8 q9 q10
  have hpl : ps.length = pn := h.paths.map_len
  have hsl : xs.length = sn := by have := h.sig.1; simpa using this
  have C0 : ∀ w', Below w.heap.size w w' → w'.cell? p = some (.string nm) := fun w' hw => (hw.cell hb).trans c0
  have C1 : ∀ w', Below w.heap.size w w' → w'.cell? ⟨p.block, p.off + 1, none⟩ = some (.int .i64 parts) := fun w' hw => (hw.cell (p := ⟨p.block, p.off + 1, none⟩) hb).trans c1
  have C2 : ∀ w', Below w.heap.size w w' → w'.cell? ⟨p.block, p.off + 2, none⟩ = some (.slice PA pn pc) := fun w' hw => (hw.cell (p := ⟨p.block, p.off + 2, none⟩) hb).trans c2
  have C3 : ∀ w', Below w.heap.size w w' → w'.cell? ⟨p.block, p.off + 3, none⟩ = some (.slice SA sn sc) := fun w' hw => (hw.cell (p := ⟨p.block, p.off + 3, none⟩) hb).trans c3
  replace C0 := hide C0
  replace C1 := hide C1
  replace C2 := hide C2
  replace C3 := hide C3
  have H := hide h
  have ek : pn ≤ 64 := by omega
  have es : sn ≤ 96 := by omega
  have HPL := hide hpl
  have HSL := hide hsl
  have HQ9 := hide q9
  clear c1 c2 c3 h hpl hsl q9 q10 hv
  have i1 : (nm.size : Int) % 256 = (nm.size : Int) := by omega
  have hcv := Go.Lib.run_convert_bytes_const (P := Try.prog) w 51 5 #[.int .u8 76, .int .u8 73, .int .u8 86, .int .u8 49] 4 4 Try.underlying51 Try.underlying5
  obtain ⟨W1, hW1⟩ : ∃ W, W = w.alloc (.cells #[.int .u8 76, .int .u8 73, .int .u8 86, .int .u8 49] 5 (4, 5)) := ⟨_, rfl⟩
  have hcv' : (convert 51 51 (.slice (some ⟨w.heap.size, 0, none⟩) 4 4)).run Try.prog (w.alloc (.cells #[.int .u8 76, .int .u8 73, .int .u8 86, .int .u8 49] 5)) = .ok (.slice (some ⟨w.heap.size, 0, none⟩) 4 4) W1 := by rw [hW1]; exact hcv
  clear hcv
  have hb1 : Below w.heap.size w W1 := by rw [hW1]; exact (Below.refl _ _).alloc (Nat.le_refl _) _
  have HZ := hide (show W1.heap.size = w.heap.size + 1 by rw [hW1]; simp)
  have HC : Hid (∀ j u, (ub [76, 73, 86, 49])[j]? = some u → W1.cell? ⟨w.heap.size, j, none⟩ = some u) := hide (by
    rw [hW1]
    intro j u hu
    rw [World.cell?_alloc_mark]
    simpa using hu)
  clear hW1
  obtain ⟨i0, hi, hz0, hz1, hz2⟩ := info_parts info_b8
  have A0 := C0.out _ hb1
  clear c0
  go_enter Try.func53, Try.ntmps53
  go_wp2_with (at_builtin; refine wpList_append_grows _ rfl (.tmp 9) (.tmp 16) 51 rfl 5 i0 (.int .u8 0) 1 1 Try.underlying51 hi hz0 hz1 hz2 rfl (by omega) (some ⟨w.heap.size, 0, none⟩) 4 4 (ub [76, 73, 86, 49]) rfl (fun e => by cases e) rfl ?ho ⟨W1.heap.size, 0, none⟩ 1 1 (ub [UInt8.ofNat nm.size]) rfl rfl ?hn ?h1 (by omega) (by simp [maxLen]) (by omega) ?_)
  case ho =>
    intro b e j u hu
    obtain rfl := Option.some.inj e
    rw [Addr.add_lit, Nat.zero_add, World.cell?_alloc_lt _ _ _ (by show w.heap.size < W1.heap.size; have := HZ.out; omega)]
    exact HC.out j u hu
  case hn =>
    rw [ub1 (show nm.size < 256 by omega)]
    exact cell_one_new _ _ _
  case h1 => exact ub_one
  intro v3 w3 ho3 hg3
  have HO3 : Hid (w3.ownsRow w.heap.size 5 1 v3 5 (ub (st0 nm))) := hide (by rw [show ub (st0 nm) = [.int .u8 76, .int .u8 73, .int .u8 86, .int .u8 49, .int .u8 (nm.size : Int)] from by unfold st0; rw [show ub ([76, 73, 86, 49] ++ [UInt8.ofNat nm.size]) = ub [76, 73, 86, 49] ++ ub [UInt8.ofNat nm.size] from List.map_append, ub1 (by omega)]; rfl]; exact own_up ho3 (by have := HZ.out; omega))
  have hb3 : Below w.heap.size w w3 := hb1.trans ((((Below.refl _ _).alloc (Nat.le_refl _) _).grown hg3 (by simp) (fun k hk => by cases hk)).mono (by have := HZ.out; omega))
  have hw3 : w.heap.size ≤ w3.heap.size := hb3.size
  clear A0 hb1 HC HZ ho3 hg3 hcv'
  have A0 := C0.out _ hb3
  obtain ⟨cap4, W4, hsb, hb4, hc4⟩ := bytes_of w3 nm
  have HO4 : Hid (W4.ownsRow w.heap.size 5 1 v3 5 (ub (st0 nm))) := hide (own_below HO3.out hb4)
  have bel4 := hb3.trans (hb4.mono hw3)
  have hw4 : w.heap.size ≤ W4.heap.size := bel4.size
  have Hc4 := hide hc4
  clear hb4 hc4 HO3
  go_wp2_with (at_builtin; refine wpList_appendM rfl (.tmp 18) (.tmp 23) 51 rfl w.heap.size 5 (.int .u8 0) 1 info_b8 Try.underlying51 rfl _ _ _ rfl HO4.out ⟨w3.heap.size, 0, none⟩ nm.size cap4 (ub nm.data.toList) rfl (by simp) Hc4.out ub_one (by omega) (by omega) hw4 ?_)
  intro v5 w5 ho5 hg5
  have hb5 : Below w.heap.size W4 w5 := below_of_own hg5 HO4.out hw4
  have bel5 := bel4.trans hb5
  have HO5 : Hid (w5.ownsRow w.heap.size 5 1 v5 (5 + nm.size) (ub (st0 nm ++ nm.data.toList))) := hide (by rw [show ub (st0 nm ++ nm.data.toList) = ub (st0 nm) ++ ub nm.data.toList from List.map_append]; exact ho5)
  have hw5 : w.heap.size ≤ w5.heap.size := bel5.size
  clear A0 hsb Hc4 HO4 bel4 hw4 ho5 hg5 hb5 hb3 hw3
  have A0 : w5.cell? p = some (.string nm) := C0.out _ bel5
  have A1 : w5.cell? ⟨p.block, p.off + 1, none⟩ = some (.int .i64 parts) := C1.out _ bel5
  have A2 : w5.cell? ⟨p.block, p.off + 2, none⟩ = some (.slice PA pn pc) := C2.out _ bel5
  have A3 : w5.cell? ⟨p.block, p.off + 3, none⟩ = some (.slice SA sn sc) := C3.out _ bel5
  have hbb : p.block < w.heap.size := hb
  have HO5D : w5.drew.ownsRow w.heap.size 5 1 v5 (5 + nm.size) (ub (st0 nm ++ nm.data.toList)) := HO5.out
  have m1 : parts % 256 = parts := by omega
  have m2 : (pn : Int) % 256 = (pn : Int) := by omega
  have m3 : IntKind.u8.wrap parts = parts := by rw [IntKind.wrap_u8]; omega
  have m4 : IntKind.u8.wrap (pn : Int) = (pn : Int) := by rw [IntKind.wrap_u8]; omega
  go_wp2
  go_region_held3 (fun w' => w'.cell? p = some (.string nm) ∧ w'.cell? ⟨p.block, p.off + 1, none⟩ = some (.int .i64 parts) ∧ w'.cell? ⟨p.block, p.off + 2, none⟩ = some (.slice PA pn pc) ∧ w'.cell? ⟨p.block, p.off + 3, none⟩ = some (.slice SA sn sc)) (first | assumption | go_keep)
    (first
      | (refine step_append2c rfl (.tmp 25) (.tmp 39) 51 rfl w.heap.size 5 (.int .u8 0) _ _ 1 info_b8 Try.underlying51 rfl rfl v5 (5 + nm.size) _ (by simp [Act.eval]; done) HO5D (by simp [Act.eval]; done) rfl rfl (by omega) (by omega) hw5 ?_; intro v6 w6 ho6 hb6; have Bl6 : Below w.heap.size w w6 := bel5.trans ⟨hb6.os, hb6.tape, hb6.output, hb6.size, hb6.block⟩; have K6 : w6.cell? p = some (.string nm) ∧ w6.cell? ⟨p.block, p.off + 1, none⟩ = some (.int .i64 parts) ∧ w6.cell? ⟨p.block, p.off + 2, none⟩ = some (.slice PA pn pc) ∧ w6.cell? ⟨p.block, p.off + 3, none⟩ = some (.slice SA sn sc) := ⟨C0.out _ Bl6, C1.out _ Bl6, C2.out _ Bl6, C3.out _ Bl6⟩)
      | fail "other")
  have HO6 : Hid (w6.ownsRow w.heap.size 5 1 v6 (7 + nm.size) (ub (st1 nm parts ps))) := hide (by
    rw [show ub (st1 nm parts ps) = ub (st0 nm ++ nm.data.toList) ++ [.int .u8 parts, .int .u8 (pn : Int)] from by
      unfold st1
      rw [show ub (st0 nm ++ nm.data.toList ++ [UInt8.ofNat parts.toNat, UInt8.ofNat ps.length]) = ub (st0 nm ++ nm.data.toList) ++ ub [UInt8.ofNat parts.toNat, UInt8.ofNat ps.length] from List.map_append, ub2 (by omega) (by omega), HPL.out, show ((parts.toNat : Nat) : Int) = parts by omega], show 7 + nm.size = 5 + nm.size + 2 by omega]
    exact ho6)
  have hw6 : w.heap.size ≤ w6.heap.size := Bl6.size
  clear ho6 hb6 K6 A0 A1 A2 A3 HO5D HO5 bel5 hw5
  have A0 := C2.out _ Bl6
  go_wp2
  go_loopw [3, 4, 47] (fun s3 _ i wr => ∃ k : Nat, k ≤ pn ∧ i = .int .i64 k ∧ Hid (wr.ownsRow w.heap.size 5 1 s3 (7 + nm.size + 2 * k) (ub (st2 nm parts ps k))) ∧ Below w.heap.size w wr) (fun _ _ i _ => pn - (intOf i).toNat)
  case atStart => exact ⟨0, Nat.zero_le _, rfl, hide (by rw [show st2 nm parts ps 0 = st1 nm parts ps from by simp [st2]]; exact HO6.out), Bl6⟩
  case round =>
    obtain ⟨k, hk, rfl, hown, hbel⟩ := hrel
    by_cases hlt : k < pn
    · obtain ⟨ad, x, rfl, hab, hx, hc⟩ := (H.out.paths.below (hbel.mono hB)).map_at hlt
      obtain ⟨x0, x1⟩ := HQ9.out x (List.mem_of_getElem? hx)
      obtain ⟨q, rfl⟩ := Int.eq_ofNat_of_zero_le (show 0 ≤ x by omega)
      have HS := hide (st2_succ (nm := nm) (parts := parts) hx)
      have hkI : (k : Int) < (pn : Int) := by omega
      have hkI0 : (0 : Int) ≤ (k : Int) := by omega
      have habb : (ad.add k).block < w.heap.size := by rw [block_of_add]; omega
      have hws : w.heap.size ≤ wr.heap.size := hbel.size
      have HP : Hid (∀ w', Below w.heap.size w w' → w'.cell? (ad.add k) = some (.int .i64 (q : Int))) := hide (fun w' hw => by
        rw [hw.cell habb, ← hbel.cell habb]
        exact hc)
      have A0 : wr.cell? p = some (.string nm) := C0.out _ hbel
      have A1 : wr.cell? ⟨p.block, p.off + 1, none⟩ = some (.int .i64 parts) := C1.out _ hbel
      have A2 : wr.cell? ⟨p.block, p.off + 2, none⟩ = some (.slice (some ad) pn pc) := C2.out _ hbel
      have A3 : wr.cell? ⟨p.block, p.off + 3, none⟩ = some (.slice SA sn sc) := C3.out _ hbel
      have HOD : wr.drew.ownsRow w.heap.size 5 1 u3 (7 + nm.size + 2 * k) (ub (st2 nm parts ps k)) := hown.out
      clear hx
      go_wp2
      go_region_held3 (fun w' => w'.cell? p = some (.string nm) ∧ w'.cell? ⟨p.block, p.off + 1, none⟩ = some (.int .i64 parts) ∧ w'.cell? ⟨p.block, p.off + 2, none⟩ = some (.slice (some ad) pn pc) ∧ w'.cell? ⟨p.block, p.off + 3, none⟩ = some (.slice SA sn sc) ∧ w'.cell? (ad.add k) = some (.int .i64 (q : Int))) (first | assumption | go_keep)
        (first
          | (refine step_append2c rfl (.tmp 50) (.tmp 71) 51 rfl w.heap.size 5 (.int .u8 0) _ _ 1 info_b8 Try.underlying51 rfl rfl u3 (7 + nm.size + 2 * k) _ (by simp [Act.eval]; done) HOD (by simp [Act.eval]; done) rfl rfl (by omega) (by omega) hws ?_; intro v7 w7 ho7 hb7; have Bl7 : Below w.heap.size w w7 := hbel.trans ⟨hb7.os, hb7.tape, hb7.output, hb7.size, hb7.block⟩; have K7 : w7.cell? p = some (.string nm) ∧ w7.cell? ⟨p.block, p.off + 1, none⟩ = some (.int .i64 parts) ∧ w7.cell? ⟨p.block, p.off + 2, none⟩ = some (.slice (some ad) pn pc) ∧ w7.cell? ⟨p.block, p.off + 3, none⟩ = some (.slice SA sn sc) ∧ w7.cell? (ad.add k) = some (.int .i64 (q : Int)) := ⟨C0.out _ Bl7, C1.out _ Bl7, C2.out _ Bl7, C3.out _ Bl7, HP.out _ Bl7⟩)
          | fail "other")
      have HO7 : Hid (w7.ownsRow w.heap.size 5 1 v7 (7 + nm.size + 2 * (k + 1)) (ub (st2 nm parts ps (k + 1)))) := hide (by
        rw [HS.out, show ub (st2 nm parts ps k ++ leB ((q : Int).toNat) 2) = ub (st2 nm parts ps k) ++ ub (leB q 2) from List.map_append, ← two_bytes (show q < 65536 by omega), show 7 + nm.size + 2 * (k + 1) = 7 + nm.size + 2 * k + 2 by omega]
        exact ho7)
      clear ho7 hb7 K7 A0 A1 A2 A3 HOD hown hbel HP
      go_wp2
      go_roundw
      case rel => exact ⟨k + 1, by omega, by go_num, HO7, Bl7⟩
      case measure => (simp [intOf]; try omega)
    · obtain rfl : k = pn := by omega
      have hkI : ¬ (k : Int) < (k : Int) := by omega
      have hw8 : w.heap.size ≤ wr.heap.size := hbel.size
      have a3 := C3.out _ hbel
      have i5 : (sn : Int) % 256 = (sn : Int) := by omega
      have i6 : IntKind.u8.wrap (sn : Int) = (sn : Int) := by rw [IntKind.wrap_u8]; omega
      go_wp2_with (at_builtin; refine wpList_append1 rfl (.tmp 74) (.tmp 81) 51 rfl w.heap.size 5 (.int .u8 0) _ 1 info_b8 Try.underlying51 rfl rfl _ _ _ rfl hown.out rfl rfl (by omega) (by omega) hw8 ?_)
      intro v9 w9 ho9 hb9
      have bel9 := hbel.trans hb9
      have HO9 : Hid (w9.ownsRow w.heap.size 5 1 v9 (8 + nm.size + 2 * k) (ub (st3 nm parts ps xs))) := hide (by
        rw [show ub (st3 nm parts ps xs) = ub (st2 nm parts ps k) ++ [.int .u8 (sn : Int)] from by
          unfold st3
          rw [HPL.out, show ub (st2 nm parts ps k ++ [UInt8.ofNat xs.length]) = ub (st2 nm parts ps k) ++ ub [UInt8.ofNat xs.length] from List.map_append, ub1 (by omega), HSL.out], show 8 + nm.size + 2 * k = 7 + nm.size + 2 * k + 1 by omega]
        exact ho9)
      clear ho9 hb9 hown hbel a3 i5 i6 A0 HO6 hw8
      have a3 := C3.out _ bel9
      go_wp2
      go_loopw [3, 5, 6, 88] (fun s3 _ _ i wr => ∃ m : Nat, m ≤ sn ∧ i = .int .i64 m ∧ Hid (wr.ownsRow w.heap.size 5 1 s3 (8 + nm.size + 2 * k + 4 * m) (ub (st4 nm parts ps xs m))) ∧ Below w.heap.size w wr) (fun _ _ _ i _ => sn - (intOf i).toNat)
      case atStart => exact ⟨0, Nat.zero_le _, rfl, hide (by rw [show st4 nm parts ps xs 0 = st3 nm parts ps xs from by simp [st4]]; exact HO9.out), bel9⟩
      case round =>
        obtain ⟨m, hm, rfl, hown, hbel⟩ := hrel
        by_cases hlt : m < sn
        · obtain ⟨ad2, x, had, _, hx, hc⟩ := (H.out.sig.below (hbel.mono hB)).map_at hlt
          obtain rfl : SA = some ad2 := had
          have wx := H.out.wf x (List.mem_of_getElem? hx)
          have HS := hide (st4_succ (nm := nm) (parts := parts) (ps := ps) hx)
          have hmI : (m : Int) < (sn : Int) := by omega
          have hmI0 : (0 : Int) ≤ (m : Int) := by omega
          have hcn : cn .f32 x ≤ 4294967295 := cn_le wx
          have b3 := C3.out _ hbel
          have hws : w.heap.size ≤ wr.heap.size := hbel.size
          clear hx
          go_wp2_with fail
          refine (s_l01Bits wx).mono ?_
          rintro e w' ⟨rfl, rfl⟩
          generalize cn .f32 x = q at *
          go_wp2_with (at_builtin; refine wpList_append4 rfl (.tmp 99) (.tmp 114) 51 rfl w.heap.size 5 (.int .u8 0) _ _ _ _ 1 info_b8 Try.underlying51 rfl rfl _ _ _ rfl hown.out rfl rfl rfl rfl rfl (by omega) (by omega) hws ?_)
          intro v7 w7 ho7 hb7
          have HO7 : Hid (w7.ownsRow w.heap.size 5 1 v7 (8 + nm.size + 2 * k + 4 * (m + 1)) (ub (st4 nm parts ps xs (m + 1)))) := hide (by
            rw [HS.out, show ub (st4 nm parts ps xs m ++ leB q 4) = ub (st4 nm parts ps xs m) ++ ub (leB q 4) from List.map_append, ← four_bytes (show q < 4294967296 by omega), show 8 + nm.size + 2 * k + 4 * (m + 1) = 8 + nm.size + 2 * k + 4 * m + 4 by omega]
            exact ho7)
          have hbel' := hbel.trans hb7
          clear ho7 hb7 hown hbel b3
          go_wp2
          go_roundw
          case rel => exact ⟨m + 1, by omega, by go_num, HO7, hbel'⟩
          case measure => (simp [intOf]; try omega)
        · obtain rfl : m = sn := by omega
          have hmI : ¬ (m : Int) < (m : Int) := by omega
          have hw10 : w.heap.size ≤ wr.heap.size := hbel.size
          have hcv := conv_own hown.out (by
            intro e
            have := congrArg List.length e
            rw [st4_len (by rw [HSL.out]; exact Nat.le_refl _)] at this
            simp at this)
          have hck : Calls Try.prog 87 #[.int .i64 0, .string ⟨(st4 nm parts ps xs m).toArray⟩] wr fun e w' => e = .returned (.int .i64 (chk 0 ⟨(st4 nm parts ps xs m).toArray⟩ : Int)) ∧ w' = wr := s_l01Check (n := 0) (by omega) (by
            show (st4 nm parts ps xs m).toArray.size ≤ _
            rw [List.size_toArray, st4_len (by rw [HSL.out]; exact Nat.le_refl _)]
            have e1 := HPL.out
            have e2 := HSL.out
            omega)
          have hlt9 : chk 0 ⟨(st4 nm parts ps xs m).toArray⟩ < 65003 := chkL_lt (by omega) _
          have HF := hide (show stL nm parts ps xs = st4 nm parts ps xs m ++ leB (chk 0 ⟨(st4 nm parts ps xs m).toArray⟩) 2 from by unfold stL chk; rw [HSL.out])
          generalize chk 0 ⟨(st4 nm parts ps xs m).toArray⟩ = C at *
          go_wp2_with fail
          refine hck.mono ?_
          rintro e w' ⟨rfl, hw⟩
          rw [hw]
          clear hck hcv
          go_wp2_with (at_builtin; refine wpList_append2 rfl (.tmp 120) (.tmp 127) 51 rfl w.heap.size 5 (.int .u8 0) _ _ 1 info_b8 Try.underlying51 rfl rfl _ _ _ rfl hown.out rfl rfl rfl (by omega) (by omega) hw10 ?_)
          intro v11 w11 ho11 hb11
          have HO11 : Hid (w11.ownsRow w.heap.size 5 1 v11 (8 + nm.size + 2 * k + 4 * m + 2) (ub (stL nm parts ps xs))) := hide (by
            rw [HF.out, show ub (st4 nm parts ps xs m ++ leB C 2) = ub (st4 nm parts ps xs m) ++ ub (leB C 2) from List.map_append, ← two_bytes' hlt9]
            exact ho11)
          have hcv2 := conv_own HO11.out (by
            intro e
            have := congrArg List.length e
            rw [stL_len] at this
            simp at this)
          have belF := hbel.trans hb11
          clear ho11 hb11 hown
          go_wp2
          go_ret
          exact ⟨rfl, belF⟩
set_option maxHeartbeats 2000000 in
theorem s_StoreSavedG {s : Sv} {B : Nat} {w : World} (h : SvOk w B s) (hB : B ≤ w.heap.size) (hl : SvLe 9223372036854775807 s) :
    Calls Try.prog 21 #[svV s] w fun e w' => e = .returned (.tuple #[.string (if svB s = true then stored s.nm s.parts s.ps s.xs else .empty), .bool (svB s)]) ∧ Below w.heap.size w w' := by
  rcases s with ⟨nm, parts, PA, pn, pc, ps, SA, sn, sc, xs⟩
  have H1 := fun o => h.alloc hB o
  have l1 := hl.pn
  have l2 := hl.sn
  have l3 := hl.nm
  dsimp only at l1 l2 l3
  cases hv : svB ⟨nm, parts, PA, pn, pc, ps, SA, sn, sc, xs⟩ with
  | false =>
    go_enter Try.func21, Try.ntmps21
    go_wp2_with fail
    refine (calls_bool (s_l07SavedG (p := ⟨w.heap.size, 0, none⟩) (by simp) (by simp) (by simp) (by simp) (H1 _) l3 l1 l2) hv).mono ?_
    rintro e w3 ⟨rfl, m, rfl⟩
    go_wp2
    go_ret2
    exact ⟨rfl, below_drewN (below_al' (Nat.le_refl _) _) _⟩
  | true =>
    go_enter Try.func21, Try.ntmps21
    go_wp2_with fail
    refine (calls_bool (s_l07SavedG (p := ⟨w.heap.size, 0, none⟩) (by simp) (by simp) (by simp) (by simp) (H1 _) l3 l1 l2) hv).mono ?_
    rintro e w3 ⟨rfl, m, rfl⟩
    go_wp2_with fail
    refine (s_l07Store (p := ⟨w.heap.size, 0, none⟩) (by simp) (by simp) (by simp) (by simp) (by simp) (svOk_drewN (H1 _) m) ?hB9 hv).mono ?_
    case hB9 => show B ≤ (w.alloc _).heap.size; rw [World.size_alloc]; omega
    rintro e w4 ⟨rfl, hb4⟩
    go_wp2
    go_ret2
    exact ⟨rfl, (below_drewN (below_al' (Nat.le_refl _) _) m).trans (hb4.mono (by simp))⟩
theorem s_StoreSaved {s : Sv} {B : Nat} {w : World} (h : SvOk w B s) (hB : B ≤ w.heap.size) (hl : SvLe 1048576 s) :
    Calls Try.prog 21 #[svV s] w fun e w' => e = .returned (.tuple #[.string (if svB s = true then stored s.nm s.parts s.ps s.xs else .empty), .bool (svB s)]) ∧ Below w.heap.size w w' := s_StoreSavedG h hB (hl.up (by omega))
end Go.Proofs.Ytjfmjeffmnjilaa
