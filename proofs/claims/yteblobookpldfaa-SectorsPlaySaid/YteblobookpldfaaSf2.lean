/- An act with both disks: the walk. -/
import Derived.Test.YteblobookpldfaaSf1
namespace Go.Proofs.Yteblobookpldfaa.Se
open Go.RowKit Go.Shelf Go.Proofs
attribute [local go_sem] Oper.semAt_some
attribute [local irreducible] Go.wpQuiet

theorem bl_drew {B : Nat} {w W : World} (h : Below B w W) : Below B w W.drew := ⟨h.os, h.tape, h.output, h.size, h.block⟩
theorem bl_drewN {B : Nat} {w W : World} (h : Below B w W) (n : Nat) : Below B w (W.drewN n) := ⟨h.os, h.tape, h.output, h.size, h.block⟩
theorem i64_and7 (n : Int) : bits .and .i64 n 7 = n % 8 := by
  have h7 : (BitVec.ofInt 64 7).toNat = 2 ^ 3 - 1 := by decide
  have key : (BitVec.ofInt 64 n &&& BitVec.ofInt 64 7).toNat = (n % ((2 ^ 64 : Nat) : Int)).toNat % 2 ^ 3 := by
    rw [BitVec.toNat_and, BitVec.toNat_ofInt, h7, Nat.and_two_pow_sub_one_eq_mod]
  show IntKind.i64.wrap ((BitVec.ofInt 64 n &&& BitVec.ofInt 64 7).toNat : Nat) = n % 8
  rw [key, IntKind.wrap_i64]
  omega
/-- What an act answers: both alike, and they stay alike. -/
def DoEnd (B : Nat) (F G : Nat → Prop) (p q m : Nat) (W : World) (e : Ending) (W' : World) : Prop := e = .returned (.bool true) ∧ ∃ d' r', Pair (m + 1) d' r' ∧ DRS B F G p q d' r' W W'
set_option maxRecDepth 100000 in
set_option maxHeartbeats 8000000 in
theorem do_calls {B p q m : Nat} {F G : Nat → Prop} {W : World} {x : ActV} {d : Dk} {r : Rk} (h : DR B F G p q d r W) (P : Pair m d r) (hm : m ≤ 1000) (hB : B ≤ W.heap.size) (hv : KRow W x.v x.ks) (h5 : Outside F x.v) (h6 : Outside G x.v) (hk : x.ks.length ≤ 60) (hkind : x.kind < 256) :
    Calls Try.prog 11 #[.agg x.cells, .pointer (some ⟨p, 0, none⟩), .pointer (some ⟨q, 0, none⟩)] W (DoEnd B F G p q m W) := by
  have hF := Lib.hid (fun x hx => (h.1.2 x hx).2 : ∀ x, F x → x < W.heap.size)
  have hG := Lib.hid (fun x hx => (h.2.1.2 x hx).2 : ∀ x, G x → x < W.heap.size)
  have I0 := DI.start h hv h5 h6
  have HP := Lib.hid P
  have hpos := P.pos
  have hmax := P.max
  have HQ : DoEnd B F G p q m W = DoEnd B F G p q m W := rfl
  generalize hQ : DoEnd B F G p q m W = Q at HQ ⊢
  have HQ2 := Lib.hid hQ
  have HB := Lib.hid hB
  clear h hv h5 h6 P hQ HQ
  obtain ⟨kk, hkk, em⟩ : ∃ kk : Nat, kk < 13 ∧ (x.kind : Int).tmod 13 = (kk : Int) := ⟨x.kind % 13, Nat.mod_lt _ (by decide), by rw [Int.tmod_eq_emod_of_nonneg (by omega)]; omega⟩
  obtain ⟨k0, k1, k2, k3, k4⟩ := I0.cell
  obtain ⟨os, cs, l0⟩ := I0.len
  unfold ActV.cells at *
  have HI0 := Lib.hid I0
  clear I0
  go_enter Try.func11, Try.ntmps11
  go_upto_region 1 with fail
  generalize W.alloc (.cells #[.int .u8 (x.kind : Int), .int .u8 (x.c.toNat : Int), .int .i64 x.n, .string x.data, x.v] 34) = W0 at *
  refine wp_region_quiet_lit (by kernel_rfl) (by kernel_rfl) ?_
  have z1 : ¬ (r.sure.length : Int) = 0 := by omega
  have z2 : ((r.sure.length : Int) == 0) = false := beq_eq_false_iff_ne.mpr z1
  have z3 : ¬ r.sure.length = 0 := by omega
  have z4 : ¬ r.sure = [] := fun e => by rw [e] at hpos; simp at hpos
  repeat (quiet_step (fail))
  refine wpQuiet_nil ?_
  intro _ hw'
  obtain ⟨nq, hw''⟩ := hw'
  subst hw''
  have I := HI0.out.keepB hF.out hG.out (bl_drewN (Below.refl _ _) nq)
  clear k0 k1 k2 k3 k4 l0 HI0
  generalize W0.drewN nq = W1 at *
  obtain ⟨k0, k1, k2, k3, k4⟩ := I.cell
  generalize (bits BinOp.and IntKind.i64 x.n 4095).tmod (r.sure.length : Int) = nn at *
  have hcases : kk = 6 ∨ kk = 7 ∨ kk = 8 ∨ kk = 9 ∨ kk = 10 ∨ kk = 11 ∨ kk = 12 ∨ kk < 6 := by omega
  rcases hcases with rfl | rfl | rfl | rfl | rfl | rfl | rfl | hk6
  · obtain ⟨e1, P1⟩ := pair_write HP.out x.n x.data
    have C1 := Lib.hid (fun W1 h => DI.write (d := d) (r := r) (x := x) (W1 := W1) (p := p) (q := q) (B := B) hF.out hG.out HB.out (by omega) h HP.out.ok x.n x.data)
    have C2 := Lib.hid (fun W1 h => DI.writeR (d := (opWrite x.n x.data d).2) (r := r) (x := x) (W1 := W1) (p := p) (q := q) (B := B) hF.out hG.out HB.out (by omega) h HP.out x.n x.data)
    rw [← e1] at C2
    have HP1 := Lib.hid P1
    generalize opWrite x.n x.data d = od at *
    generalize ropWrite x.n x.data r = od2 at *
    clear P1 e1
    go_upto_region 4 with fail
    go_region_held3 (fun w' => w'.cell? ⟨W.heap.size, 2, none⟩ = some (.int .i64 x.n) ∧ w'.cell? ⟨W.heap.size, 3, none⟩ = some (.string x.data)) (first | go_keep | exact ⟨I.cell.2.2.1, I.cell.2.2.2.1⟩)
      (first
        | (go_at_call 14; with_reducible refine (C1.out _ (I.keepB hF.out hG.out (by repeat (first | (with_reducible exact Below.refl _ _) | apply bl_drew | apply bl_drewN)))).mono ?_; rintro e W2 ⟨rfl, I2⟩; replace I := I2; clear I2)
        | (go_at_call 26; with_reducible refine (C2.out _ (I.keepB hF.out hG.out (by repeat (first | (with_reducible exact Below.refl _ _) | apply bl_drew | apply bl_drewN)))).mono ?_; rintro e W3 ⟨rfl, I3⟩; replace I := I3; clear I3))
    go_wp2
    (try go_ret)
    rw [← HQ2.out]
    exact ⟨rfl, _, _, HP1.out.mono (by omega), I.done⟩
  · obtain ⟨e1, P1⟩ := pair_flush HP.out
    have C1 := Lib.hid (fun W1 h => DI.flush (d := d) (r := r) (x := x) (W1 := W1) (p := p) (q := q) (B := B) hF.out hG.out h HP.out.ok)
    have C2 := Lib.hid (fun W1 h => DI.flushR (d := (opFlush d).2) (r := r) (x := x) (W1 := W1) (p := p) (q := q) (B := B) hF.out hG.out HB.out h HP.out)
    rw [← e1] at C2
    have HP1 := Lib.hid P1
    generalize opFlush d = od at *
    generalize ropFlush r = od2 at *
    clear P1 e1
    go_wp2_with (first
      | (go_at_call 15; with_reducible refine (C1.out _ I).mono ?_; rintro e W2 ⟨rfl, I2⟩; clear I)
      | (go_at_call 27; with_reducible refine (C2.out _ I2).mono ?_; rintro e W3 ⟨rfl, I3⟩; clear I2))
    (try go_ret)
    rw [← HQ2.out]
    exact ⟨rfl, _, _, HP1.out.mono (by omega), I3.done⟩
  · obtain ⟨e1, P1⟩ := pair_opCrash HP.out x.ks
    have C1 := Lib.hid (fun W1 h => DI.crash (d := d) (r := r) (x := x) (W1 := W1) (p := p) (q := q) (B := B) hF.out hG.out h HP.out.ok)
    have C2 := Lib.hid (fun W1 h => DI.crashR (d := (opCrash x.ks d).2) (r := r) (x := x) (W1 := W1) (p := p) (q := q) (B := B) hF.out hG.out HB.out h HP.out)
    rw [← e1] at C2
    have HP1 := Lib.hid P1
    generalize opCrash x.ks d = od at *
    generalize ropCrash x.ks r = od2 at *
    clear P1 e1
    go_upto_region 8 with fail
    go_region_held3 (fun w' => w'.cell? ⟨W.heap.size, 4, none⟩ = some x.v) (first | go_keep | exact I.cell.2.2.2.2)
      (first
        | (go_at_call 16; with_reducible refine (C1.out _ (I.keepB hF.out hG.out (by repeat (first | (with_reducible exact Below.refl _ _) | apply bl_drew | apply bl_drewN)))).mono ?_; rintro e W2 ⟨rfl, I2⟩; replace I := I2; clear I2)
        | (go_at_call 28; with_reducible refine (C2.out _ (I.keepB hF.out hG.out (by repeat (first | (with_reducible exact Below.refl _ _) | apply bl_drew | apply bl_drewN)))).mono ?_; rintro e W3 ⟨rfl, I3⟩; replace I := I3; clear I3))
    go_wp2
    (try go_ret)
    rw [← HQ2.out]
    exact ⟨rfl, _, _, HP1.out.mono (by omega), I.done⟩
  · obtain ⟨e1, P1⟩ := pair_start HP.out
    have C1 := Lib.hid (fun W1 h => DI.startL (d := d) (r := r) (x := x) (W1 := W1) (p := p) (q := q) (B := B) hF.out hG.out h HP.out.ok)
    have C2 := Lib.hid (fun W1 h => DI.startR (d := (opStart d).2) (r := r) (x := x) (W1 := W1) (p := p) (q := q) (B := B) hF.out hG.out h)
    rw [← e1] at C2
    have HP1 := Lib.hid P1
    generalize opStart d = od at *
    generalize ropStart r = od2 at *
    clear P1 e1
    go_wp2_with (first
      | (go_at_call 17; with_reducible refine (C1.out _ I).mono ?_; rintro e W2 ⟨rfl, I2⟩; clear I)
      | (go_at_call 29; with_reducible refine (C2.out _ I2).mono ?_; rintro e W3 ⟨rfl, I3⟩; clear I2))
    (try go_ret)
    rw [← HQ2.out]
    exact ⟨rfl, _, _, HP1.out.mono (by omega), I3.done⟩
  · obtain ⟨e1, P1⟩ := pair_start HP.out
    have C1 := Lib.hid (fun W1 h => DI.startL (d := d) (r := r) (x := x) (W1 := W1) (p := p) (q := q) (B := B) hF.out hG.out h HP.out.ok)
    have C2 := Lib.hid (fun W1 h => DI.startR (d := (opStart d).2) (r := r) (x := x) (W1 := W1) (p := p) (q := q) (B := B) hF.out hG.out h)
    rw [← e1] at C2
    have HP1 := Lib.hid P1
    generalize opStart d = od at *
    generalize ropStart r = od2 at *
    clear P1 e1
    go_wp2_with (first
      | (go_at_call 17; with_reducible refine (C1.out _ I).mono ?_; rintro e W2 ⟨rfl, I2⟩; clear I)
      | (go_at_call 29; with_reducible refine (C2.out _ I2).mono ?_; rintro e W3 ⟨rfl, I3⟩; clear I2))
    (try go_ret)
    rw [← HQ2.out]
    exact ⟨rfl, _, _, HP1.out.mono (by omega), I3.done⟩
  · by_cases hx0 : 0 < x.n
    · obtain ⟨e1, P1⟩ := pair_fail HP.out (x.n % 8) (by omega) x.ks
      have C1 := Lib.hid (fun W1 h => DI.fail (d := d) (r := r) (x := x) (W1 := W1) (p := p) (q := q) (B := B) hF.out hG.out HB.out (by omega) h HP.out.ok (x.n % 8))
      have C2 := Lib.hid (fun W1 h => DI.failR (d := (opFail (x.n % 8) x.ks d).2) (r := r) (x := x) (W1 := W1) (p := p) (q := q) (B := B) hF.out hG.out HB.out (by omega) h (x.n % 8))
      rw [← e1] at C2
      have HP1 := Lib.hid P1
      generalize opFail (x.n % 8) x.ks d = od at *
      generalize ropFail (x.n % 8) x.ks r = od2 at *
      clear P1 e1
      have e7 := i64_and7 x.n
      go_upto_region 16 with fail
      go_region_held3 (fun w' => w'.cell? ⟨W.heap.size, 4, none⟩ = some x.v) (first | go_keep | exact I.cell.2.2.2.2)
        (first
          | (go_at_call 18; with_reducible refine (C1.out _ (I.keepB hF.out hG.out (by repeat (first | (with_reducible exact Below.refl _ _) | apply bl_drew | apply bl_drewN)))).mono ?_; rintro e W2 ⟨rfl, I2⟩; replace I := I2; clear I2)
          | (go_at_call 30; with_reducible refine (C2.out _ (I.keepB hF.out hG.out (by repeat (first | (with_reducible exact Below.refl _ _) | apply bl_drew | apply bl_drewN)))).mono ?_; rintro e W3 ⟨rfl, I3⟩; replace I := I3; clear I3))
      go_wp2
      (try go_ret)
      rw [← HQ2.out]
      exact ⟨rfl, _, _, HP1.out.mono (by omega), I.done⟩
    · obtain ⟨e1, P1⟩ := pair_fail HP.out (x.n) (by omega) x.ks
      have C1 := Lib.hid (fun W1 h => DI.fail (d := d) (r := r) (x := x) (W1 := W1) (p := p) (q := q) (B := B) hF.out hG.out HB.out (by omega) h HP.out.ok (x.n))
      have C2 := Lib.hid (fun W1 h => DI.failR (d := (opFail (x.n) x.ks d).2) (r := r) (x := x) (W1 := W1) (p := p) (q := q) (B := B) hF.out hG.out HB.out (by omega) h (x.n))
      rw [← e1] at C2
      have HP1 := Lib.hid P1
      generalize opFail (x.n) x.ks d = od at *
      generalize ropFail (x.n) x.ks r = od2 at *
      clear P1 e1
      go_upto_region 16 with fail
      go_region_held3 (fun w' => w'.cell? ⟨W.heap.size, 4, none⟩ = some x.v) (first | go_keep | exact I.cell.2.2.2.2)
        (first
          | (go_at_call 18; with_reducible refine (C1.out _ (I.keepB hF.out hG.out (by repeat (first | (with_reducible exact Below.refl _ _) | apply bl_drew | apply bl_drewN)))).mono ?_; rintro e W2 ⟨rfl, I2⟩; replace I := I2; clear I2)
          | (go_at_call 30; with_reducible refine (C2.out _ (I.keepB hF.out hG.out (by repeat (first | (with_reducible exact Below.refl _ _) | apply bl_drew | apply bl_drewN)))).mono ?_; rintro e W3 ⟨rfl, I3⟩; replace I := I3; clear I3))
      go_wp2
      (try go_ret)
      rw [← HQ2.out]
      exact ⟨rfl, _, _, HP1.out.mono (by omega), I.done⟩
  · have e1 := pair_read HP.out x.n
    have C1 := Lib.hid (fun W1 h => DI.read (d := d) (r := r) (x := x) (W1 := W1) (p := p) (q := q) (B := B) hF.out hG.out (by omega) h HP.out.ok x.n)
    have C2 := Lib.hid (fun W1 h => DI.readR (F := F) (G := G) (d := d) (r := r) (x := x) (W := W) (W1 := W1) (p := p) (q := q) (B := B) h x.n)
    rw [← e1] at C2
    generalize (opRead x.n d).1 = rs at *
    generalize (opRead x.n d).2 = rz at *
    go_wp2_with (first
      | (go_at_call 13; with_reducible refine (C1.out _ I).mono ?_; rintro e W2 ⟨rfl, I2⟩; clear I; obtain ⟨-, -, m2, -, -⟩ := I2.cell)
      | (go_at_call 31; with_reducible refine (C2.out _ I2).mono ?_; rintro e W3 ⟨rfl, rfl⟩))
    (try go_ret)
    rw [← HQ2.out]
    exact ⟨rfl, _, _, HP.out.mono (by omega), I2.done⟩
  · have b6 : ((kk : Int) == 6) = false := beq_eq_false_iff_ne.mpr (by omega)
    have b7 : ((kk : Int) == 7) = false := beq_eq_false_iff_ne.mpr (by omega)
    have b8 : ((kk : Int) == 8) = false := beq_eq_false_iff_ne.mpr (by omega)
    have b9 : ((kk : Int) == 9) = false := beq_eq_false_iff_ne.mpr (by omega)
    have b10 : ((kk : Int) == 10) = false := beq_eq_false_iff_ne.mpr (by omega)
    have b11 : ((kk : Int) == 11) = false := beq_eq_false_iff_ne.mpr (by omega)
    have b12 : ((kk : Int) == 12) = false := beq_eq_false_iff_ne.mpr (by omega)
    have HSec := Lib.hid (fun W => sector_calls W x.c)
    obtain ⟨ss, hss⟩ : ∃ ss, ss = secS x.c := ⟨_, rfl⟩
    rw [← hss] at HSec
    clear hss
    obtain ⟨e1, P1⟩ := pair_write HP.out nn ss
    have C1 := Lib.hid (fun W1 h => DI.write (d := d) (r := r) (x := x) (W1 := W1) (p := p) (q := q) (B := B) hF.out hG.out HB.out (by omega) h HP.out.ok nn ss)
    have C2 := Lib.hid (fun W1 h => DI.writeR (d := (opWrite nn ss d).2) (r := r) (x := x) (W1 := W1) (p := p) (q := q) (B := B) hF.out hG.out HB.out (by omega) h HP.out nn ss)
    rw [← e1] at C2
    have HP1 := Lib.hid P1
    generalize opWrite nn ss d = od at *
    generalize ropWrite nn ss r = od2 at *
    clear P1 e1
    go_upto_region 21 with fail
    go_region_held3 (fun w' => w'.cell? ⟨W.heap.size, 1, none⟩ = some (.int .u8 (x.c.toNat : Int))) (first | go_keep | exact I.cell.2.1)
      (first
        | (go_at_call 14; with_reducible refine (C1.out _ (I.keepB hF.out hG.out (by repeat (first | (with_reducible exact Below.refl _ _) | apply bl_drew | apply bl_drewN)))).mono ?_; rintro e W2 ⟨rfl, I2⟩; replace I := I2; clear I2)
        | (go_at_call 26; with_reducible refine (C2.out _ (I.keepB hF.out hG.out (by repeat (first | (with_reducible exact Below.refl _ _) | apply bl_drew | apply bl_drewN)))).mono ?_; rintro e W3 ⟨rfl, I3⟩; replace I := I3; clear I3)
        | (go_at_call 23; with_reducible refine (HSec.out _).mono ?_; rintro e W4 ⟨rfl, hB4⟩; replace I := (I.keepB hF.out hG.out (by repeat (first | (with_reducible exact Below.refl _ _) | apply bl_drew | apply bl_drewN))).keepB hF.out hG.out hB4))
    go_wp2
    (try go_ret)
    rw [← HQ2.out]
    exact ⟨rfl, _, _, HP1.out.mono (by omega), I.done⟩
end Go.Proofs.Yteblobookpldfaa.Se
