/- ShaParts: the walk. -/
import Derived.Test.YtegjphfkkafomaaDoorSha19
import Derived.Deep.RegionHeld3
namespace Go.Proofs.YtegjphfkkafomaaDoor.Sha
open Go.RowKit Go.Proofs Go.Proofs.YtegjphfkkafomaaDoor.Q Go.Proofs.YtegjphfkkafomaaDoorW.PrintWords Go.Proofs.YtegjphfkkafomaaDoorW.PrintLast Go.Proofs.YtegjphfkkafomaaDoorW.PrintMore

section
variable {w w4 W : World} {p q : Nat} {u v : Value} {l m : List Nat} {z y : Nat}
theorem JI.writeH (J : JI w p u l z q v m y w4) (hlt : 1 < w.heap.size) (s : ByteArray) (hs : s.size ≤ 1000000000) (hz : z ≤ 1000000000000) (hB : Below w4.heap.size w4 W) :
    Calls Tryd.prog 14 #[.pointer (some ⟨p, 0, none⟩), .string s] W fun e w' => e = .returned (.int .i64 s.size) ∧ ∃ u', JI w p u' (l ++ byN s) ((z + s.size : Nat) : Int) q v m y w' := by
  have J' := J.keepB hB
  refine (write_calls W p u l z s J'.laid J'.h hs hz).mono ?_
  rintro e w7 ⟨rfl, v7, H7, hf7, ho7⟩
  exact ⟨rfl, v7, J'.write hlt H7 hf7 ho7⟩
theorem JI.sumC (J : JI w p u l z q v m y w4) (hy : y ≤ 1000000000000) (hB : Below w4.heap.size w4 W) :
    Calls Tryd.prog 15 #[.pointer (some ⟨q, 0, none⟩)] W fun e w' => e = .returned (digV (sumN m y)) ∧ JI w p u l z q v m y w' := by
  have J' := J.keepB hB
  refine (sum_calls W q v m y J'.laid J'.c hy).mono ?_
  rintro e w7 ⟨rfl, hB7⟩
  exact ⟨rfl, J'.keepB hB7⟩
theorem JI.sumH (J : JI w p u l z q v m y w4) (hz : z ≤ 1000000000000) (hB : Below w4.heap.size w4 W) :
    Calls Tryd.prog 15 #[.pointer (some ⟨p, 0, none⟩)] W fun e w' => e = .returned (digV (sumN l z)) ∧ JI w p u l z q v m y w' := by
  have J' := J.keepB hB
  refine (sum_calls W p u l z J'.laid J'.h hz).mono ?_
  rintro e w7 ⟨rfl, hB7⟩
  exact ⟨rfl, J'.keepB hB7⟩
theorem JI.refS (J : JI w p u l z q v m y w4) (s : ByteArray) (hs : s.size ≤ 1000000000) (hB : Below w4.heap.size w4 W) :
    Calls Tryd.prog 11 #[.string s] W fun e w' => e = .returned (digV (sumN (byN s) s.size)) ∧ JI w p u l z q v m y w' := by
  have J' := J.keepB hB
  refine (refOf_calls W s hs).mono ?_
  rintro e w7 ⟨rfl, hB7⟩
  exact ⟨rfl, J'.keepB hB7⟩
theorem JI.sizeC (J : JI w p u l z q v m y w4) (hB : Below w4.heap.size w4 W) :
    Calls Tryd.prog 16 #[.pointer (some ⟨q, 0, none⟩)] W fun e w' => e = .returned (.int .i64 (y : Int)) ∧ JI w p u l z q v m y w' := by
  have J' := J.keepB hB
  refine (size_calls W q v m y J'.c).mono ?_
  rintro e w7 ⟨rfl, rfl⟩
  exact ⟨rfl, J'⟩
theorem JI.sizeH (J : JI w p u l z q v m y w4) (hB : Below w4.heap.size w4 W) :
    Calls Tryd.prog 16 #[.pointer (some ⟨p, 0, none⟩)] W fun e w' => e = .returned (.int .i64 (z : Int)) ∧ JI w p u l z q v m y w' := by
  have J' := J.keepB hB
  refine (size_calls W p u l z J'.h).mono ?_
  rintro e w7 ⟨rfl, rfl⟩
  exact ⟨rfl, J'⟩
end
theorem byN_empty : byN { data := #[] } = [] := rfl
attribute [local irreducible] sumN digV byN
set_option maxHeartbeats 2000000 in
set_option maxRecDepth 100000 in
theorem shaParts_calls (w : World) (o : Option Addr) (len cap : Nat) (hL : Laid w) (hrow : (o = none ∧ len = 0) ∨ ∃ a, o = some a ∧ ∀ i, i < len → ∃ x, w.cell? (a.add i) = some (.string x)) :
    Calls Tryd.prog 4 #[.slice o len cap] w fun e w' => e = .returned (.bool true) ∧ Below w.heap.size w w' := by
  have hlt := hL.lt
  have HL := Lib.hid hL
  clear hL
  have HR := Lib.hid hrow
  clear hrow
  by_cases g : (20 : Int) < (len : Int)
  · go_enter Tryd.func4, Tryd.ntmps4
    go_wp2_with (go_at_call 9; refine (hashed_calls w HL.out).mono ?_; rintro e w2 ⟨rfl, hB⟩)
    go_ret
    exact ⟨rfl, hB⟩
  · go_enter Tryd.func4, Tryd.ntmps4
    go_wp2_with (go_at_call 12; refine (new_calls w HL.out).mono ?_; rintro e w2 ⟨rfl, H2, hB2⟩; have I2 := HI.of_new HL.out H2 rfl hB2; clear H2 hB2)
    have hlen : len ≤ 20 := by omega
    have hnq : ∀ (l : List Nat) (z : Nat) w, (Go.binOp .neq 24 (digV (sumN l z)) (digV (sumN l z))).run Tryd.prog w = .ok (.bool false) w := fun l z => neq_same (sumN l z) (sumN_length _ _) (sumN_lt _ _)
    have hgd := guard_dig
    go_loopg [4, 5] len (fun k v4 v5 wr => ∃ (i : Nat) (al : ByteArray) (u : Value), v4 = .string al ∧ v5 = .int .i64 i ∧ i ≤ len ∧ al.size ≤ 300 * i ∧ HI w w.heap.size u (byN al) (al.size : Nat) wr ∧ k = len - i)
    case atStart => exact ⟨0, _, _, rfl, rfl, by omega, by decide, by rw [byN_empty]; exact I2, rfl⟩
    case round =>
      clear I2
      obtain ⟨i, al, u, rfl, rfl, hi, hal, I, rfl⟩ := hrel
      by_cases hil : i < len
      · obtain ⟨a, rfl, x, hcell⟩ : ∃ a, o = some a ∧ ∃ x, w.cell? (a.add i) = some (.string x) := by
          rcases HR.out with ⟨_, h0⟩ | ⟨a, ha, h⟩
          · omega
          · exact ⟨a, ha, h i hil⟩
        have hab := block_lt_of_cell hcell
        have hc1 : wr.cell? (a.add i) = some (.string x) := (I.below.cell hab).trans hcell
        have c1 : (i : Int) < (len : Int) := by omega
        have c2 : (0 : Int) ≤ (i : Int) := by omega
        have c3 : ((i : Int)).toNat = i := by omega
        by_cases g3 : (300 : Int) < (x.size : Int)
        · go_wp2_with (go_at_call 9; refine (hashed_calls wr I.laid).mono ?_; rintro e w3 ⟨rfl, hB⟩)
          go_ret
          exact ⟨rfl, I.below.trans (hB.mono I.below.size)⟩
        · have hxs : x.size ≤ 300 := by omega
          have g4 : x.size ≤ 1000000000 := by omega
          have g5 : al.size ≤ 1000000000 := by omega
          have g6 : al.size ≤ 1000000000000 := by omega
          go_wp2_with (go_at_call 13; refine (copy_calls wr _ _ _ _ I.h).mono ?_; rintro e w4 ⟨rfl, u4, H4, hf4, hB4⟩; have J := I.copy H4 hf4 hB4; clear H4 hf4 hB4 I)
          have hc4 : w4.cell? (a.add i) = some (.string x) := (J.below.cell hab).trans hcell
          go_region_held3 (fun w' => w'.cell? (a.add i) = some (.string x)) (first | go_keep | exact (J.below.cell hab).trans hcell)
            (first
              | (go_at_call 14; refine (J.writeH hlt x g4 g6 (by repeat (first | (with_reducible exact Below.refl _ _) | apply below_drew1 | apply pw_below_drewN))).mono ?_; rintro e w5 ⟨rfl, u5, J5⟩; replace J := J5; clear J5)
              | (go_at_call 15; refine (J.sumC g6 (by repeat (first | (with_reducible exact Below.refl _ _) | apply below_drew1 | apply pw_below_drewN))).mono ?_; rintro e w5 ⟨rfl, J5⟩; replace J := J5; clear J5)
              | (go_at_call 11; refine (J.refS al g5 (by repeat (first | (with_reducible exact Below.refl _ _) | apply below_drew1 | apply pw_below_drewN))).mono ?_; rintro e w5 ⟨rfl, J5⟩; replace J := J5; clear J5)
              | (go_at_call 16; refine (J.sizeC (by repeat (first | (with_reducible exact Below.refl _ _) | apply below_drew1 | apply pw_below_drewN))).mono ?_; rintro e w5 ⟨rfl, J5⟩; replace J := J5; clear J5))
          obtain ⟨al2, hal2⟩ : ∃ s, s = al ++ x := ⟨_, rfl⟩
          have zal : al2.size = al.size + x.size := by rw [hal2, ByteArray.size_append]
          have bal : byN al2 = byN al ++ byN x := by rw [hal2, byN_append]
          have q4 : ∀ w, (Op.stringOp .add al x).run Tryd.prog w = .ok (.string al2) w := fun w => by
            rw [hal2]
            exact run_string_add_sum w al x (by omega)
          clear hal2
          rw [← bal, ← zal] at J
          have g7 : al2.size ≤ 1000000000 := by omega
          have g8 : al2.size ≤ 1000000000000 := by omega
          have g9 : al2.size ≤ 300 * (i + 1) := by omega
          clear bal zal
          go_wp2_with (first
            | (go_at_call 14; refine (J.swap.writeH hlt { data := #[120] } (by decide) (by omega) (Below.refl _ _)).mono ?_; rintro e w6 ⟨rfl, u6, J6⟩; replace J := J6.swap; clear J6; have hc6 := (J.below.cell hab).trans hcell)
            | (go_at_call 15; refine (J.sumH g8 (Below.refl _ _)).mono ?_; rintro e w7 ⟨rfl, J7⟩; replace J := J7; clear J7)
            | (go_at_call 11; refine (J.refS al2 g7 (Below.refl _ _)).mono ?_; rintro e w8 ⟨rfl, J8⟩; replace J := J8; clear J8)
            | (go_at_call 16; refine (J.sizeH (Below.refl _ _)).mono ?_; rintro e w9 ⟨rfl, J9⟩; replace J := J9; clear J9))
          have I9 := J.left
          clear J
          go_roundg (len - (i + 1))
          case measure => clear c1 c2 c3; omega
          case rel => exact ⟨i + 1, al2, _, rfl, by simp, by omega, g9, I9, rfl⟩
      · go_wp2_with (go_at_call 9; refine (hashed_calls wr I.laid).mono ?_; rintro e w3 ⟨rfl, hB⟩)
        go_ret
        exact ⟨rfl, I.below.trans (hB.mono I.below.size)⟩
end Go.Proofs.YtegjphfkkafomaaDoor.Sha
