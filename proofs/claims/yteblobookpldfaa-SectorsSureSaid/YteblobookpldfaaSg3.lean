/- What was flushed is there: the law's walk. -/
import Derived.Test.YteblobookpldfaaSg2
import Derived.Deep.DeepCutAuto
import Derived.Deep.CutBlock
namespace Go.Proofs.Yteblobookpldfaa.Se
open Go.RowKit Go.Shelf Go.Proofs
attribute [local go_sem] Oper.semAt_some
attribute [local irreducible] Go.wpQuiet

theorem PRow.form {w : World} {v : Value} {L : List (UInt8 × UInt8)} (h : PRow w v L) : ∃ o c, v = .slice o L.length c := by
  rcases h with ⟨rfl, rfl⟩ | ⟨a, c, rfl, _⟩
  · exact ⟨none, 0, rfl⟩
  · exact ⟨some a, c, rfl⟩
theorem PRow.at' {w : World} {o : Option Addr} {n c : Nat} {L : List (UInt8 × UInt8)} (h : PRow w (.slice o n c) L) (i : Nat) (x : UInt8 × UInt8) (hi : L[i]? = some x) : ∃ a, o = some a ∧ w.cell? (a.add (i * 2)) = some (.int .u8 (x.1.toNat : Int)) ∧ w.cell? ((a.add (i * 2)).add 1) = some (.int .u8 (x.2.toNat : Int)) := by
  rcases h with ⟨h1, rfl⟩ | ⟨a, cap, h1, h2⟩
  · cases hi
  · obtain ⟨rfl, rfl, rfl⟩ := Value.slice.inj h1
    exact ⟨a, rfl, h2 i x hi⟩
theorem exec_alloc55 (ρ : Operand → Value) (o : Oper) (ho : o.op = .alloc 55) (w : World) : (execOp ρ o).run Try.prog w = .ok (.value (.pointer (some ⟨w.heap.size, 0, none⟩))) (w.alloc (.cells Z55 55)) := by
  unfold execOp
  simp only [ho, Sem.run_bind, run_alloc55, Result.andThen_ok]
  rfl
theorem wpList_alloc55 {ops : Array Oper} {rest : List Oper} {o : Oper} {a : Act} {w : World} {Q : Exit → Act → World → Prop} (hg : o.guard = none) (ho : o.op = .alloc 55) (n : Nat) (hn : w.heap.size = n)
    (h : wpList Try.prog ops Q rest (a.put o.dst (.pointer (some ⟨n, 0, none⟩))) (w.alloc (.cells Z55 55))) : wpList Try.prog ops Q (o :: rest) a w := by
  subst hn
  exact Go.Great.wpList_allocTo hg o.dst rfl _ _ (exec_alloc55 _ o ho w) h
theorem wpList_build55 {ops : Array Oper} {rest : List Oper} {o : Oper} {a : Act} {w : World} {Q : Exit → Act → World → Prop} (hg : o.guard = none) (ho : o.op = .build 55 #[])
    (h : wpList Try.prog ops Q rest (a.put o.dst (.agg Z55)) w) : wpList Try.prog ops Q (o :: rest) a w := by
  have e : Try.prog.built 55 ((#[] : Array (Nat × Operand)).map fun (i, x) => (i, a.eval x)).toList = some Z55 := by simp; exact built55
  refine wpList_build hg 55 #[] ho (by rw [e]; rfl) ?_
  rw [e]
  exact h
/-- A sector of a number's byte. -/
theorem sector_num2 (W : World) (i : Nat) (hi : i < 256) : Calls Try.prog 23 #[.int .u8 (i : Int)] W fun e w' => e = .returned (.string (secS (UInt8.ofNat i))) ∧ Below W.heap.size W w' := by
  have h := sector_calls W (UInt8.ofNat i)
  rw [UInt8.toNat_ofNat_of_lt' (by simp [UInt8.size]; omega)] at h
  exact h
def Books (S X S1 L1 : List UInt8) (h : Nat) : Prop := S1.length = 8 ∧ L1.length = 8 ∧ (∀ k, k < h → S1[k]? = X[k]? ∧ L1[k]? = X[k]?) ∧ ∀ k, h ≤ k → S1[k]? = S[k]?
theorem Books.step {S X S1 L1 : List UInt8} {h : Nat} {xv : UInt8} (H : Books S X S1 L1 h) (hx : X[h]? = some xv) (h8 : h < 8) : Books S X (S1.set h xv) (L1.set h xv) (h + 1) := by
  obtain ⟨a, b, c, e⟩ := H
  refine ⟨by rw [List.length_set]; exact a, by rw [List.length_set]; exact b, fun k hk => ?_, fun k hk => ?_⟩
  · rw [List.getElem?_set, List.getElem?_set]
    by_cases q : h = k
    · subst q
      rw [if_pos rfl, if_pos (by omega), if_pos rfl, if_pos (by omega)]
      exact ⟨hx.symm, hx.symm⟩
    · rw [if_neg q, if_neg q]
      exact c k (by omega)
  · rw [List.getElem?_set, if_neg (by omega)]
    exact e k (by omega)
theorem Books.done {S X S1 L1 : List UInt8} (H : Books S X S1 L1 8) (hX : X.length = 8) : S1 = X ∧ L1 = X := by
  obtain ⟨a, b, c, _⟩ := H
  refine ⟨List.ext_getElem? fun k => ?_, List.ext_getElem? fun k => ?_⟩
  · by_cases q : k < 8
    · exact (c k q).1
    · rw [List.getElem?_eq_none (by omega), List.getElem?_eq_none (by omega)]
  · by_cases q : k < 8
    · exact (c k q).2
    · rw [List.getElem?_eq_none (by omega), List.getElem?_eq_none (by omega)]
theorem secS_first (c : UInt8) : ∀ hp : 0 < (secS c).size, (secS c)[0]'hp = c := by
  unfold secS
  intro hp
  show (List.replicate 512 c).toArray[0] = c
  rw [List.getElem_toArray, List.getElem_replicate]
set_option maxRecDepth 100000 in
set_option maxHeartbeats 8000000 in
theorem sectorsSure_calls (w : World) (vl vk : Value) (l : List (UInt8 × UInt8)) (ks : List Bool) (hl : PRow w vl l) (hk : KRow w vk ks) :
    Calls Try.prog 6 #[vl, vk] w fun e w' => e = .returned (.bool true) ∧ Below w.heap.size w w' := by
  obtain ⟨o, c, rfl⟩ := hl.form
  obtain ⟨o2, c2, rfl⟩ := hk.form
  have HS := Lib.hid spun_calls
  by_cases h1 : 60 < l.length ∨ 60 < ks.length
  · by_cases h2 : 60 < l.length
    · have d1 : (60 : Int) < (l.length : Int) := by omega
      clear hl hk
      go_enter Try.func6, Try.ntmps6
      go_wp2_with (go_at_call 8; refine (HS.out _).mono ?_; rintro e w' ⟨rfl, hT⟩)
      go_ret
      exact ⟨rfl, hT⟩
    · have d1 : ¬ (60 : Int) < (l.length : Int) := by omega
      have d2 : (60 : Int) < (ks.length : Int) := by omega
      clear hl hk
      go_enter Try.func6, Try.ntmps6
      go_wp2_with (go_at_call 8; refine (HS.out _).mono ?_; rintro e w' ⟨rfl, hT⟩)
      go_ret
      exact ⟨rfl, hT⟩
  · have d1 : ¬ (60 : Int) < (l.length : Int) := by omega
    have d2 : ¬ (60 : Int) < (ks.length : Int) := by omega
    have hl60 : l.length ≤ 60 := by omega
    have hk60 : ks.length ≤ 60 := by omega
    clear h1
    have HN : Hid (Calls Try.prog 9 #[.int .i64 8] w fun e W' => ∃ p, e = .returned (.tuple #[.pointer (some ⟨p, 0, none⟩), .int .i64 0]) ∧ D1 w p (dN 8) W') := Lib.hid (D1.new w w (Below.refl _ _) 8 (by omega) (by omega))
    have HL := Lib.hid hl
    have HK := Lib.hid hk
    clear hl hk
    have HI0 := Lib.hid SI.new
    go_enter Try.func6, Try.ntmps6
    go_upto_region 8 with (first
      | (go_at_call 9; with_reducible refine HN.out.mono ?_; rintro e w1 ⟨p, rfl, g1⟩)
      | (refine wpList_alloc55 rfl rfl (w1.heap.size + 1 + 1) (by simp) ?_))
    have hM := MI.new g1
    have HM0 := Lib.hid hM
    clear g1 HN hM
    have HM1 : Hid (MI w p w1.heap.size (w1.heap.size + 1) (w1.heap.size + 1 + 1) (dN 8) (List.replicate 8 0) (List.replicate 8 0) noF (((w1.alloc (.cells #[.int .u8 0, .int .u8 0, .int .u8 0, .int .u8 0, .int .u8 0, .int .u8 0, .int .u8 0, .int .u8 0] 53)).alloc (.cells #[.int .u8 0, .int .u8 0, .int .u8 0, .int .u8 0, .int .u8 0, .int .u8 0, .int .u8 0, .int .u8 0] 53)).alloc (.cells Z55 55))) := HM0
    clear HM0
    generalize ((w1.alloc (.cells #[.int .u8 0, .int .u8 0, .int .u8 0, .int .u8 0, .int .u8 0, .int .u8 0, .int .u8 0, .int .u8 0] 53)).alloc (.cells #[.int .u8 0, .int .u8 0, .int .u8 0, .int .u8 0, .int .u8 0, .int .u8 0, .int .u8 0, .int .u8 0] 53)).alloc (.cells Z55 55) = w2 at *
    generalize w1.heap.size = gs at *
    obtain ⟨gl, hgl⟩ : ∃ gl, gl = gs + 1 := ⟨_, rfl⟩
    obtain ⟨go, hgo⟩ : ∃ go, go = gs + 1 + 1 := ⟨_, rfl⟩
    rw [← hgo, ← hgl] at HM1 ⊢
    clear hgl hgo
    obtain ⟨aS, haS⟩ : ∃ a, a = (⟨gs, 0, none⟩ : Addr) := ⟨_, rfl⟩
    obtain ⟨aL, haL⟩ : ∃ a, a = (⟨gl, 0, none⟩ : Addr) := ⟨_, rfl⟩
    obtain ⟨aO, haO⟩ : ∃ a, a = (⟨go, 0, none⟩ : Addr) := ⟨_, rfl⟩
    rw [← haS, ← haL, ← haO]
    have HAS := Lib.hid haS
    have HAL := Lib.hid haL
    have HAO := Lib.hid haO
    clear haS haL haO
    go_wp2
    go_loopg [10, 11, 12, 13, 14, 15, 16] l.length (fun k v10 _ _ _ _ _ _ wr => ∃ (i : Nat) (d : Dk) (S L : List UInt8) (f : Nat → Nat → Bool), v10 = .int .i64 (i : Int) ∧ i ≤ l.length ∧ Hid (MI w p gs gl go d S L f wr) ∧ Hid (SI i d S L f) ∧ k = l.length - i)
    case atStart => exact ⟨0, _, _, _, _, rfl, by omega, HM1, HI0, rfl⟩
    case round =>
      clear HM1 HI0
      obtain ⟨i, d, S, L, f, rfl, hi, HM, HI, rfl⟩ := hrel
      by_cases hil : i < l.length
      · obtain ⟨x, hx⟩ : ∃ x, l[i]? = some x := ⟨_, List.getElem?_eq_getElem hil⟩
        obtain ⟨ad, rfl, hc0, hc1⟩ := HL.out.at' i x hx
        have HCW := Lib.hid (fun W (hW : Below w.heap.size w W) => (show W.cell? (ad.add (i * 2)) = _ ∧ W.cell? ((ad.add (i * 2)).add 1) = _ from ⟨(hW.cell (lt_of_cell hc0)).trans hc0, (hW.cell (lt_of_cell hc1)).trans hc1⟩))
        obtain ⟨b0, b1⟩ := HCW.out _ HM.out.below
        clear hc0 hc1
        have e1 : (i : Int) < (l.length : Int) := by omega
        have e2 : ((i : Int)).toNat = i := by omega
        have e3 : (0 : Int) ≤ (i : Int) := by omega
        clear hx
        have hx1 : x.1.toNat < 256 := x.1.toNat_lt
        have hx2 : x.2.toNat < 256 := x.2.toNat_lt
        generalize x.1.toNat = y1 at *
        generalize x.2.toNat = y2 at *
        obtain ⟨r, hr8, em⟩ : ∃ r : Nat, r < 8 ∧ (y1 : Int).tmod 8 = (r : Int) := ⟨y1 % 8, Nat.mod_lt _ (by decide), by rw [Int.tmod_eq_emod_of_nonneg (by omega)]; omega⟩
        have HSec : Hid (∀ W, Calls Try.prog 23 #[.int .u8 ((i : Int) + 1)] W fun e w' => e = .returned (.string (secS (UInt8.ofNat (i + 1)))) ∧ Below W.heap.size W w') := Lib.hid (fun W => sector_num2 W (i + 1) (by omega))
        obtain ⟨cc, hcc⟩ : ∃ cc, cc = UInt8.ofNat (i + 1) := ⟨_, rfl⟩
        have hct : cc.toNat = i + 1 := by rw [hcc, UInt8.toNat_ofNat_of_lt' (by simp [UInt8.size]; omega)]
        rw [← hcc] at HSec
        obtain ⟨d', q1, hI'⟩ := HI.out.write hr8 (c := cc) (by omega)
        have W1 : Hid (∀ W, MI w p gs gl go d S L f W → Calls Try.prog 14 #[.pointer (some ⟨p, 0, none⟩), .int .i64 (r : Int), .string (secS cc)] W fun e W' => e = .returned (.int .i64 0) ∧ MI w p gs gl go d' S L f W') := Lib.hid (fun W h => h.write HI.out.ok (by omega) _ _ q1)
        rw [hct] at hI'
        have HI1 := Lib.hid hI'
        have ew : IntKind.u8.wrap ((i : Int) + 1) = (i : Int) + 1 := by rw [IntKind.wrap_u8]; omega
        have HLL := HI.out.ll
        clear q1 hI' hcc HI
        generalize secS cc = ss at *
        have hM := HM.out
        have e5 : (r : Int) < 8 := by omega
        have e6 : ((r : Int)).toNat = r := by omega
        have e7 : (0 : Int) ≤ (r : Int) := by omega
        go_upto_region 14 with (first
          | (go_at_call 23; with_reducible refine (HSec.out _).mono ?_; rintro e W2 ⟨rfl, hB2⟩; replace hM := hM.keepB hB2)
          | (go_at_call 14; with_reducible refine (W1.out _ hM).mono ?_; rintro e w3 ⟨rfl, hM3⟩; clear hM))
        obtain ⟨old, hold⟩ : ∃ old, L[r]? = some old := ⟨_, List.getElem?_eq_getElem (by omega)⟩
        have e8 : ((i + 1 : Nat) : Int) = (i : Int) + 1 := by omega
        obtain ⟨j, hj⟩ : ∃ j, j = i + 1 := ⟨_, rfl⟩
        have e9 : ((i : Int) + 1).toNat = j := by omega
        have e10 : (0 : Int) ≤ (i : Int) + 1 := by omega
        have e11 : (i : Int) + 1 < 61 := by omega
        replace HI1 : Hid (SI (i + 1) d' S (L.set r cc) (upd f r j)) := Lib.hid (by rw [hj]; exact HI1.out)
        obtain ⟨o1, o2⟩ := hM3.cO (n := r) (j := j) hr8 (by omega)
        have hM4 := hM3.setO r j hr8 (by omega)
        rw [← add_two] at hM4
        obtain ⟨o3, o4⟩ := hM3.cL hold
        have o5 : ¬ ((⟨go, 0, none⟩ : Addr).add (r * 61)).add j = (⟨gl, 0, none⟩ : Addr).add r := fun e => by
          rw [add_two, add_zero] at e
          exact hM3.ne.2.2 (Addr.mk.inj e).1.symm
        have hM5 := hM4.setL r cc
        rw [hct, e8, ← add_zero gl r] at hM5
        rw [← HAO.out] at o1 o2 o5 hM5
        rw [← HAL.out] at o3 o4 o5 hM5
        have HM5 := Lib.hid hM5
        have HJ := Lib.hid hj
        clear hM3 hM4 hM5 hold hct e8 hj
        go_upto_region 15 with fail
        generalize (w3.setCell ((aO.add (r * 61)).add j) (.bool true)).setCell (aL.add r) (.int .u8 ((i : Int) + 1)) = w4 at *
        clear o1 o2 o3 o4 o5 e9 e10 e11 HJ
        obtain ⟨_, b3⟩ := HCW.out _ HM5.out.below
        replace b3 : w4.cell? ⟨(ad.add (i * 2)).block, (ad.add (i * 2)).off + 1, none⟩ = some (.int .u8 (y2 : Int)) := b3
        obtain ⟨kk, hkk, em2⟩ : ∃ kk : Nat, kk < 4 ∧ (y2 : Int).tmod 4 = (kk : Int) := ⟨y2 % 4, Nat.mod_lt _ (by decide), by rw [Int.tmod_eq_emod_of_nonneg (by omega)]; omega⟩
        go_upto_block 2 with fail
        clear b3 em2
        go_cut [12, 13, 14] (fun _ _ _ wx => ∃ (d : Dk) (S L : List UInt8) (f : Nat → Nat → Bool), Hid (MI w p gs gl go d S L f wx) ∧ Hid (SI (i + 1) d S L f))
        case first =>
          have hcases : kk = 0 ∨ kk = 1 ∨ kk = 2 ∨ kk = 3 := by omega
          rcases hcases with rfl | rfl | rfl | rfl
          · obtain ⟨d6, q6, hl6, hI6⟩ := HI1.out.flush
            have F1 : Hid (∀ W, MI w p gs gl go d' S (L.set r cc) (upd f r j) W → Calls Try.prog 15 #[.pointer (some ⟨p, 0, none⟩)] W fun e W' => e = .returned (.int .i64 0) ∧ MI w p gs gl go d6 S (L.set r cc) (upd f r j) W') := Lib.hid (fun W h => h.flush HI1.out.ok q6)
            have F2 : Hid (∀ W, MI w p gs gl go d6 S (L.set r cc) (upd f r j) W → Calls Try.prog 20 #[.pointer (some ⟨p, 0, none⟩)] W fun e W' => e = .returned (.int .i64 0) ∧ W = W') := Lib.hid (fun W h => h.loose hl6)
            have hLl := HI1.out.ll
            have hSl := HI1.out.sl
            have HI6 := Lib.hid hI6
            have hM5 := HM5.out
            clear q6 hl6 hI6 HI1 HM5
            generalize L.set r cc = L' at *
            go_wp2_with (first
              | (go_at_call 15; with_reducible refine (F1.out _ hM5).mono ?_; rintro e w6 ⟨rfl, hM6⟩; clear hM5)
              | (go_at_call 20; with_reducible refine (F2.out _ hM6).mono ?_; rintro e w7 ⟨rfl, rfl⟩)
              | (refine wpList_load_row rfl 53 (.tmp 8) rfl gl (congrArg (fun a => Value.pointer (some a)) HAL.out) 53 (bytesV L') (0, 0) (.array 8 5) hM6.l Try.underlying53 rfl (by rw [size53]; simp [hLl]) ?_)
              | (refine wpList_build55 rfl rfl ?_)
              | (refine wpList_store_row rfl 53 (.tmp 7) (.tmp 79) rfl gs (bytesV L') (congrArg (fun a => Value.pointer (some a)) HAS.out) rfl 53 (bytesV S) hM6.s (by rw [size53]; simp [hLl]) (by simp [hLl, hSl]) (Go.all_oneCell_toArray (fun v hv => by obtain ⟨c, _, rfl⟩ := List.mem_map.1 hv; rfl)) ?_; have hM7 := hM6.rowS L'; clear hM6; obtain ⟨cs7, oo1, oo2⟩ := hM7.o)
              | (refine wpList_store_row rfl 55 (.tmp 9) (.tmp 80) rfl go Z55 (congrArg (fun a => Value.pointer (some a)) HAO.out) rfl 55 cs7 oo1 (by rw [size55, Z55_size]) (oo2.1.trans Z55_size.symm) Z55_one ?_; have hM8 := hM7.rowO; clear hM7))
            go_meet
            exact ⟨_, _, _, _, Lib.hid hM8, HI6⟩
          · obtain ⟨d6, d7, X, q6, ok6, q7, hl7, hI7, hX⟩ := HI1.out.crash ks
            have F1 : Hid (∀ W, MI w p gs gl go d' S (L.set r cc) (upd f r j) W → Calls Try.prog 16 #[.pointer (some ⟨p, 0, none⟩), .slice o2 ks.length c2] W fun e W' => e = .returned (.int .i64 0) ∧ MI w p gs gl go d6 S (L.set r cc) (upd f r j) W') := Lib.hid (fun W h => h.crash HI1.out.ok _ ks HK.out q6)
            have F2 : Hid (∀ W, MI w p gs gl go d6 S (L.set r cc) (upd f r j) W → Calls Try.prog 17 #[.pointer (some ⟨p, 0, none⟩)] W fun e W' => e = .returned (.int .i64 0) ∧ MI w p gs gl go d7 S (L.set r cc) (upd f r j) W') := Lib.hid (fun W h => h.start ok6 q7)
            have F3 : Hid (∀ W, MI w p gs gl go d7 S (L.set r cc) (upd f r j) W → Calls Try.prog 20 #[.pointer (some ⟨p, 0, none⟩)] W fun e W' => e = .returned (.int .i64 0) ∧ W = W') := Lib.hid (fun W h => h.loose hl7)
            have hLl := HI1.out.ll
            have hSl := HI1.out.sl
            have HI7 := Lib.hid hI7
            have HX := Lib.hid hX
            have hM5 := HM5.out
            clear q6 q7 hl7 hI7 hX ok6 HI1 HM5
            generalize L.set r cc = L' at *
            generalize upd f r j = f' at *
            go_wp2_with (first
              | (go_at_call 16; with_reducible refine (F1.out _ hM5).mono ?_; rintro e w6 ⟨rfl, hM6⟩; clear hM5)
              | (go_at_call 17; with_reducible refine (F2.out _ hM6).mono ?_; rintro e w7 ⟨rfl, hM7⟩; clear hM6)
              | (go_at_call 20; with_reducible refine (F3.out _ hM7).mono ?_; rintro e w8 ⟨rfl, rfl⟩))
            have HM7 := Lib.hid hM7
            have H0 : Hid (Books S X S L' 0) := Lib.hid ⟨hSl, hLl, fun k hk => by omega, fun _ _ => rfl⟩
            clear hM7 F1 F2 F3
            go_loopg [12, 13, 14] 8 (fun k v12 _ _ wx => ∃ (h : Nat) (S1 L1 : List UInt8), v12 = .int .i64 (h : Int) ∧ h ≤ 8 ∧ Hid (MI w p gs gl go d7 S1 L1 f' wx) ∧ Hid (Books S X S1 L1 h) ∧ k = 8 - h)
            case atStart => exact ⟨0, S, L', rfl, by omega, HM7, H0, rfl⟩
            case round =>
              clear HM7 H0
              obtain ⟨h, S1, L1, rfl, hh, HM1, H1, rfl⟩ := hrel
              by_cases hh8 : h < 8
              · have f1 : (h : Int) < 8 := by omega
                have f2 : ((h : Int)).toNat = h := by omega
                have f3 : (0 : Int) ≤ (h : Int) := by omega
                obtain ⟨xv, hxv⟩ : ∃ xv, X[h]? = some xv := ⟨_, List.getElem?_eq_getElem (by rw [HI7.out.sl]; omega)⟩
                obtain ⟨sv, hsv⟩ : ∃ sv, S1[h]? = some sv := ⟨_, List.getElem?_eq_getElem (by rw [H1.out.1]; omega)⟩
                obtain ⟨lv, hlv⟩ : ∃ lv, L1[h]? = some lv := ⟨_, List.getElem?_eq_getElem (by rw [H1.out.2.1]; omega)⟩
                have hxs := HX.out h xv sv hxv ((H1.out.2.2.2 h (Nat.le_refl _)).symm.trans hsv)
                have q8 := HI7.out.read hxv
                have HSc : Hid (∀ W, Calls Try.prog 23 #[.int .u8 (xv.toNat : Int)] W fun e w' => e = .returned (.string (secS xv)) ∧ Below W.heap.size W w') := Lib.hid (fun W => sector_calls W xv)
                have R1 : Hid (∀ W, MI w p gs gl go d7 S1 L1 f' W → Calls Try.prog 13 #[.pointer (some ⟨p, 0, none⟩), .int .i64 (h : Int)] W fun e W' => e = .returned (.tuple #[.string (secS xv), .int .i64 0]) ∧ MI w p gs gl go d7 S1 L1 f' W') := Lib.hid (fun W hm => hm.read HI7.out.ok (by omega) _ _ q8)
                have z1 := secS_size xv
                clear q8
                have z2 := secS_first xv
                generalize secS xv = sx at *
                obtain ⟨xn, hxn'⟩ : ∃ xn, xn = xv.toNat := ⟨_, rfl⟩
                obtain ⟨sn, hsn'⟩ : ∃ sn, sn = sv.toNat := ⟨_, rfl⟩
                have hxn := hxn'.symm
                have hsn := hsn'.symm
                have z3 : ∀ hp : 0 < sx.size, (sx[0]'hp).toNat = xn := fun hp => by rw [z2 hp, hxn]
                rw [hxn] at HSc hxs
                clear z2 hxn' hsn'
                by_cases hxe : xv = sv
                · have g1 : ((xn : Int) != (sn : Int)) = false := by rw [← hxn, ← hsn, hxe]; simp
                  clear hxs
                  go_upto_region 27 with (go_at_call 13; with_reducible refine (R1.out _ HM1.out).mono ?_; rintro e w8 ⟨rfl, hM8⟩)
                  have hcS : ∀ d os, (Go.Sort.grow (redrawn w8 d) os).cell? (aS.add h) = some (.int .u8 (sn : Int)) := fun d os => by
                    have := ((hM8.keepB (below_regrown w8 d os)).cS hsv).1
                    rw [← HAS.out] at this
                    rw [← hsn]
                    exact this
                  refine QT.wp_region_below_tail 35 (by kernel_rfl) (by kernel_rfl) ?_
                  simp only [List.take_succ_cons, List.take_zero, List.drop_succ_cons, List.drop_zero]
                  quiet_step (fail)
                  quiet_step (fail)
                  quiet_step (fail)
                  quiet_step (fail)
                  quiet_step (fail)
                  quiet_step (fail)
                  quiet_step (fail)
                  quiet_step (fail)
                  quiet_step (fail)
                  quiet_step (fail)
                  quiet_step (fail)
                  quiet_step ((go_at_call 23; exact Calls.regrown_of (HSc.out _)))
                  quiet_step (fail)
                  quiet_step (fail)
                  quiet_step (fail)
                  quiet_step (fail)
                  quiet_step (fail)
                  quiet_step (fail)
                  quiet_step (fail)
                  quiet_step (fail)
                  quiet_step (fail)
                  quiet_step (fail)
                  refine wpQuiet_skip (by kernel_rfl) ?_
                  refine wpQuiet_skip (by kernel_rfl) ?_
                  refine wpQuiet_skip (by kernel_rfl) ?_
                  refine wpQuiet_skip (by kernel_rfl) ?_
                  refine wpQuiet_skip (by kernel_rfl) ?_
                  refine wpQuiet_skip (by kernel_rfl) ?_
                  refine wpQuiet_skip (by kernel_rfl) ?_
                  refine wpQuiet_skip (by kernel_rfl) ?_
                  refine wpQuiet_skip (by kernel_rfl) ?_
                  refine wpQuiet_skip (by kernel_rfl) ?_
                  refine wpQuiet_skip (by kernel_rfl) ?_
                  refine wpQuiet_skip (by kernel_rfl) ?_
                  quiet_step (fail)
                  refine wpQuiet_nil ?_
                  intro w9 hw9
                  obtain ⟨pq, hw9'⟩ := hw9
                  subst hw9'
                  have hM9 := hM8.keepB (below_regrown w8 pq.d pq.os)
                  clear hcS hM8
                  generalize Go.Sort.grow (redrawn w8 pq.d) pq.os = w9 at *
                  obtain ⟨r1, r2⟩ := hM9.cS hsv
                  obtain ⟨r3, r4⟩ := hM9.cL hlv
                  have r5 : ¬ (⟨gs, 0, none⟩ : Addr).add h = (⟨gl, 0, none⟩ : Addr).add h := fun e => by
                    rw [add_zero, add_zero] at e
                    exact hM9.ne.1 (Addr.mk.inj e).1
                  have hM10 := (hM9.setS h xv).setL h xv
                  rw [← add_zero gs h, ← add_zero gl h, hxn] at hM10
                  rw [← HAS.out] at r1 r2 r5 hM10
                  rw [← HAL.out] at r3 r4 r5 hM10
                  have HM10 := Lib.hid hM10
                  clear hM9 hM10
                  go_upto_region 29 with fail
                  go_region_held3 (fun _ => True) (trivial) (fail)
                  all_goals
                    (go_wp2
                     go_roundg (8 - (h + 1))
                     case measure => omega
                     case rel => exact ⟨h + 1, _, _, by simp, by omega, Lib.hid (HM10.out.keepB ⟨rfl, rfl, rfl, Nat.le_refl _, fun _ _ => rfl⟩), Lib.hid (H1.out.step hxv hh8), rfl⟩)
                · have hb := hxs.resolve_left hxe
                  have hb1 := hb.1
                  have hb2 := hb.2
                  have hne : ¬ xn = sn := fun e => hxe (UInt8.toNat_inj.1 (by rw [hxn, hsn, e]))
                  have g0 : ¬ (xn : Int) = (sn : Int) := by omega
                  have g1 : ((xn : Int) != (sn : Int)) = true := by rw [bne, beq_eq_false_iff_ne.mpr g0]; rfl
                  have g2 : ¬ (60 : Int) < (xn : Int) := by omega
                  have g3 : (xn : Int) < 61 := by omega
                  have g4 : ((xn : Int)).toNat = xn := by omega
                  have g5 : (0 : Int) ≤ (xn : Int) := by omega
                  clear hxs hb hxe hne
                  go_upto_region 27 with (go_at_call 13; with_reducible refine (R1.out _ HM1.out).mono ?_; rintro e w8 ⟨rfl, hM8⟩)
                  have hcS : ∀ d os, (Go.Sort.grow (redrawn w8 d) os).cell? (aS.add h) = some (.int .u8 (sn : Int)) := fun d os => by
                    have := ((hM8.keepB (below_regrown w8 d os)).cS hsv).1
                    rw [← HAS.out] at this
                    rw [← hsn]
                    exact this
                  have hcO : ∀ d os, (Go.Sort.grow (redrawn w8 d) os).cell? ((aO.add (h * 61)).add xn) = some (.bool true) := fun d os => by
                    have := ((hM8.keepB (below_regrown w8 d os)).cO (n := h) (j := xn) hh8 (by omega)).1
                    rw [← HAO.out, hb2] at this
                    exact this
                  refine QT.wp_region_below_tail 35 (by kernel_rfl) (by kernel_rfl) ?_
                  simp only [List.take_succ_cons, List.take_zero, List.drop_succ_cons, List.drop_zero]
                  quiet_step (fail)
                  quiet_step (fail)
                  quiet_step (fail)
                  quiet_step (fail)
                  quiet_step (fail)
                  quiet_step (fail)
                  quiet_step (fail)
                  quiet_step (fail)
                  quiet_step (fail)
                  quiet_step (fail)
                  quiet_step (fail)
                  quiet_step ((go_at_call 23; exact Calls.regrown_of (HSc.out _)))
                  quiet_step (fail)
                  quiet_step (fail)
                  quiet_step (fail)
                  quiet_step (fail)
                  quiet_step (fail)
                  quiet_step (fail)
                  quiet_step (fail)
                  quiet_step (fail)
                  quiet_step (fail)
                  quiet_step (fail)
                  quiet_step (fail)
                  quiet_step (fail)
                  quiet_step (fail)
                  quiet_step (fail)
                  quiet_step (fail)
                  quiet_step (fail)
                  quiet_step (fail)
                  quiet_step (fail)
                  quiet_step (fail)
                  quiet_step (fail)
                  quiet_step (fail)
                  quiet_step (fail)
                  quiet_step (fail)
                  refine wpQuiet_nil ?_
                  intro w9 hw9
                  obtain ⟨pq, hw9'⟩ := hw9
                  subst hw9'
                  have hM9 := hM8.keepB (below_regrown w8 pq.d pq.os)
                  clear hcS hM8 hcO
                  generalize Go.Sort.grow (redrawn w8 pq.d) pq.os = w9 at *
                  obtain ⟨r1, r2⟩ := hM9.cS hsv
                  obtain ⟨r3, r4⟩ := hM9.cL hlv
                  have r5 : ¬ (⟨gs, 0, none⟩ : Addr).add h = (⟨gl, 0, none⟩ : Addr).add h := fun e => by
                    rw [add_zero, add_zero] at e
                    exact hM9.ne.1 (Addr.mk.inj e).1
                  have hM10 := (hM9.setS h xv).setL h xv
                  rw [← add_zero gs h, ← add_zero gl h, hxn] at hM10
                  rw [← HAS.out] at r1 r2 r5 hM10
                  rw [← HAL.out] at r3 r4 r5 hM10
                  have HM10 := Lib.hid hM10
                  clear hM9 hM10
                  go_upto_region 29 with fail
                  go_region_held3 (fun _ => True) (trivial) (fail)
                  all_goals
                    (go_wp2
                     go_roundg (8 - (h + 1))
                     case measure => omega
                     case rel => exact ⟨h + 1, _, _, by simp, by omega, Lib.hid (HM10.out.keepB ⟨rfl, rfl, rfl, Nat.le_refl _, fun _ _ => rfl⟩), Lib.hid (H1.out.step hxv hh8), rfl⟩)
              · obtain rfl : h = 8 := by omega
                obtain ⟨e1, e2⟩ := H1.out.done HI7.out.sl
                subst e1
                subst e2
                have hM1 := HM1.out
                obtain ⟨cs7, oo1, oo2⟩ := hM1.o
                have f1 : ¬ ((8 : Nat) : Int) < 8 := by omega
                go_wp2_with (first
                  | (refine wpList_build55 rfl rfl ?_)
                  | (refine wpList_store_row rfl 55 (.tmp 9) (.tmp 151) rfl go Z55 (congrArg (fun a => Value.pointer (some a)) HAO.out) rfl 55 cs7 oo1 (by rw [size55, Z55_size]) (oo2.1.trans Z55_size.symm) Z55_one ?_; have hM8 := hM1.rowO; clear hM1))
                go_meet
                exact ⟨_, _, _, _, Lib.hid hM8, HI7⟩
          · go_wp2
            go_meet
            exact ⟨_, _, _, _, HM5, HI1⟩
          · go_wp2
            go_meet
            exact ⟨_, _, _, _, HM5, HI1⟩
        case rest =>
          clear HM5 HI1
          obtain ⟨d5, S5, L5, f5, HM5, HI5⟩ := hcut
          obtain ⟨cl, hcl⟩ : ∃ cl, L5[r]? = some cl := ⟨_, List.getElem?_eq_getElem (by rw [HI5.out.ll]; omega)⟩
          have q5 := HI5.out.read hcl
          have HCL := Lib.hid hcl
          have HSc2 : Hid (∀ W, Calls Try.prog 23 #[.int .u8 (cl.toNat : Int)] W fun e w' => e = .returned (.string (secS cl)) ∧ Below W.heap.size W w') := Lib.hid (fun W => sector_calls W cl)
          have R1 : Hid (∀ W, MI w p gs gl go d5 S5 L5 f5 W → Calls Try.prog 13 #[.pointer (some ⟨p, 0, none⟩), .int .i64 (r : Int)] W fun e W' => e = .returned (.tuple #[.string (secS cl), .int .i64 0]) ∧ MI w p gs gl go d5 S5 L5 f5 W') := Lib.hid (fun W h => h.read HI5.out.ok (by omega) _ _ q5)
          clear q5 hcl
          generalize secS cl = s5 at *
          go_wp2_with (first
            | (go_at_call 13; with_reducible refine (R1.out _ HM5.out).mono ?_; rintro e w6 ⟨rfl, hM6⟩; obtain ⟨k1, -⟩ := hM6.cL HCL.out; rw [← HAL.out] at k1)
            | (go_at_call 23; with_reducible refine (HSc2.out _).mono ?_; rintro e w7 ⟨rfl, hB7⟩; replace hM6 := hM6.keepB hB7))
          go_roundg (l.length - (i + 1))
          case measure => omega
          case rel => exact ⟨i + 1, d5, S5, L5, f5, by simp, by omega, Lib.hid hM6, HI5, rfl⟩
      · have e1 : ¬ (i : Int) < (l.length : Int) := by omega
        go_wp2_with (go_at_call 8; refine (HS.out _).mono ?_; rintro e w' ⟨rfl, hT⟩)
        go_ret
        exact ⟨rfl, HM.out.below.trans (hT.mono HM.out.below.size)⟩
end Go.Proofs.Yteblobookpldfaa.Se
