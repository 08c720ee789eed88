/- Maps of blocks: Give: the walk. -/
import Derived.Test.YtidnkckfkgaooaaAlA
namespace Go.Proofs.Ytidnkckfkgaooaa.Al
open Go.RowKit Go.Proofs Go.Proofs.Ytidnkckfkgaooaa.Q Go.Proofs.Ytidnkckfkgaooaa.Ext Go.Proofs.Ytidnkckfkgaooaa.Pure Go.Proofs.YtidnkckfkgaooaaW.PrintWords Go.Proofs.YtidnkckfkgaooaaW.PrintLast Go.Proofs.YtidnkckfkgaooaaW.PrintMore

/-- An extent lies in a map. -/
def exIn (N : Nat) (x : Int × Int) : Prop := 1 ≤ x.2 ∧ 0 ≤ x.1 ∧ x.1 < (N : Int) ∧ x.2 ≤ (N : Int) - x.1
instance (N : Nat) (x : Int × Int) : Decidable (exIn N x) := by unfold exIn; exact inferInstance
/-- All its blocks are in use. -/
def exUsed (t : ByteArray) (x : Int × Int) : Prop := ∀ k : Nat, (k : Int) < x.2 → hasI t (x.1 + (k : Int)) = true
open Classical in
/-- Extents given back; none: one of them may not be. -/
noncomputable def giveE (N : Nat) : List (Int × Int) → ByteArray → Option ByteArray
  | [], t => some t
  | x :: r, t => if exIn N x ∧ exUsed t x then giveE N r (setN false x.1 x.2.toNat t) else none
open Classical in
theorem giveE_stop (N : Nat) {x : Int × Int} {t : ByteArray} (h : ¬ (exIn N x ∧ exUsed t x)) (r : List (Int × Int)) : giveE N (x :: r) t = none := by
  unfold giveE
  rw [if_neg h]
open Classical in
theorem giveE_step (N : Nat) {x : Int × Int} {t : ByteArray} (h : exIn N x ∧ exUsed t x) (r : List (Int × Int)) : giveE N (x :: r) t = giveE N r (setN false x.1 x.2.toNat t) := by
  rw [giveE, if_pos h]
theorem giveE_nil (N : Nat) (t : ByteArray) : giveE N [] t = some t := by unfold giveE; rfl
theorem not_in {N : Nat} {f m : Int} {t : ByteArray} (h : ¬ (1 ≤ m ∧ 0 ≤ f ∧ f < (N : Int) ∧ m ≤ (N : Int) - f)) : ¬ (exIn N (f, m) ∧ exUsed t (f, m)) := fun k => h k.1
theorem not_used {N : Nat} {f m : Int} {t : ByteArray} (k : Nat) (hk : (k : Int) < m) (h : hasI t (f + (k : Int)) = false) : ¬ (exIn N (f, m) ∧ exUsed t (f, m)) := fun u => by
  have := u.2 k hk
  rw [h] at this
  cases this
theorem is_in {N : Nat} {f m : Int} {t : ByteArray} (h : 1 ≤ m ∧ 0 ≤ f ∧ f < (N : Int) ∧ m ≤ (N : Int) - f) (u : ∀ k : Nat, (k : Int) < m → hasI t (f + (k : Int)) = true) : exIn N (f, m) ∧ exUsed t (f, m) := ⟨h, u⟩
theorem setN_size (on : Bool) (f : Int) : ∀ (k : Nat) (s : ByteArray), (setN on f k s).size = s.size
  | 0, _ => rfl
  | k + 1, s => by
    show (withI (setN on f k s) (f + (k : Int)) on).size = s.size
    rw [withI_size, setN_size on f k s]
/-- In Give. -/
structure GivI (w : World) (p C N : Nat) (s t : ByteArray) (v : Value) (L : List (Int × Int)) (wr : World) : Prop where
  below : Below w.heap.size w wr
  m : MapAt wr p N s
  c : MapAt wr C N t
  row : ExRow wr v L
  hC : w.heap.size ≤ C
  vC : ∀ a l c, v = .slice (some a) l c → 0 < l → a.block ≠ C
theorem ExRow.keepB {w w' : World} {v : Value} {L : List (Int × Int)} (h : ExRow w v L) (hB : Below w.heap.size w w') : ExRow w' v L := by
  rcases h with h | ⟨a, cap, h1, h2⟩
  · exact .inl h
  · exact .inr ⟨a, cap, h1, fun i x hi => ⟨(hB.cell (block_lt_of_cell (h2 i x hi).1)).trans (h2 i x hi).1, (hB.cell (block_lt_of_cell (h2 i x hi).2)).trans (h2 i x hi).2⟩⟩
theorem GivI.keepB {w w2 w3 : World} {p C N : Nat} {s t : ByteArray} {v : Value} {L : List (Int × Int)} (h : GivI w p C N s t v L w2) (hB : Below w2.heap.size w2 w3) : GivI w p C N s t v L w3 :=
  ⟨h.below.trans (hB.mono h.below.size), h.m.keepB hB, h.c.keepB hB, h.row.keepB hB, h.hC, h.vC⟩
theorem GivI.put {w w2 w3 : World} {p C N : Nat} {s t u : ByteArray} {v : Value} {L : List (Int × Int)} (h : GivI w p C N s t v L w2) (hp : p ≠ C) (k : OnlyAt C w2 w3) (hm : MapAt w3 C N u) : GivI w p C N s u v L w3 := by
  refine ⟨k.below h.below h.hC h.below.size, ?_, hm, h.row.keep h.vC k, h.hC, h.vC⟩
  have := h.m
  unfold MapAt at *
  rw [k.block _ (lt_of_block this) hp]
  exact this
set_option maxHeartbeats 1000000 in
theorem give_none (w : World) (m v : Value) (h : NoMap w m) : Calls Try.prog 28 #[m, v] w fun e w' => e = .returned (.bool false) ∧ w = w' := by
  rcases h with rfl | ⟨p, rfl, h⟩
  · go_enter Try.func28, Try.ntmps28
    go_wp2_with (go_at_call 37; refine (size_nil _).mono ?_; rintro e w' ⟨rfl, rfl⟩)
    go_ret
    exact ⟨rfl, rfl⟩
  · go_enter Try.func28, Try.ntmps28
    go_wp2_with (go_at_call 37; refine (size_map _ _ _ _ h).mono ?_; rintro e w' ⟨rfl, rfl⟩)
    go_ret
    exact ⟨rfl, rfl⟩
/-- What Give answers. -/
def GEnd (w : World) (p N : Nat) (s : ByteArray) (r : Option ByteArray) (e : Ending) (w' : World) : Prop := e = .returned (.bool r.isSome) ∧ MapAt w' p N (r.getD s) ∧ OnlyAt p w w'
theorem OnlyAt.ofB {p B : Nat} {a b : World} (h : Below B a b) (hB : a.heap.size ≤ B) : OnlyAt p a b := ⟨h.os, h.tape, h.output, h.size, fun i hi _ => h.block i (by omega)⟩
attribute [local irreducible] Go.wpQuiet withI setN giveE exIn exUsed hasI
set_option maxHeartbeats 8000000 in
set_option maxRecDepth 100000 in
theorem give_calls (w : World) (p N : Nat) (s : ByteArray) (v : Value) (L : List (Int × Int)) (hm : MapAt w p N s) (h1 : 1 ≤ N) (hN : N ≤ 4096) (hs : s.size ≤ 1000) (hr : ExRow w v L) (hL : L.length ≤ 1000000) (hb : ∀ x ∈ L, I64 x.1 ∧ I64 x.2) :
    Calls Try.prog 28 #[.pointer (some ⟨p, 0, none⟩), v] w (GEnd w p N s (giveE N L s)) := by
  obtain ⟨o, c, rfl⟩ := hr.form
  have hpw := lt_of_block hm
  have HB := Lib.hid hb
  have HR := Lib.hid hr
  have hn1 : ¬ (N : Int) = 0 := by omega
  have hn2 : ((N : Int) == 0) = false := beq_eq_false_iff_ne.mpr hn1
  have HV := Lib.hid (show ∀ a l c', Value.slice o L.length c = .slice (some a) l c' → 0 < l → a.block ≠ w.heap.size from fun a l c' e hl => by
    obtain ⟨rfl, rfl, rfl⟩ := Value.slice.inj e
    obtain ⟨a', ha, hx, _⟩ := hr.at' 0 _ (List.getElem?_eq_getElem hl)
    obtain rfl := Option.some.inj ha
    have := block_lt_of_cell hx
    have e2 : (a.add (0 * 2)).block = a.block := by unfold Addr.add; split <;> rfl
    omega)
  clear hb hr
  have HC := Lib.hid (show ∀ w2, MapAt w2 w.heap.size N s → Below w.heap.size w w2 → GivI w p w.heap.size N s s (.slice o L.length c) L w2 from fun w2 h2 hB => ⟨hB, by
    unfold MapAt at *
    rw [hB.block _ hpw]
    exact hm, h2, HR.out.keepB hB, Nat.le_refl _, HV.out⟩)
  have HCM := Lib.hid (copy_map w p N s hm h1)
  have HSZ := Lib.hid (size_map w p N s hm)
  have hpC : p ≠ w.heap.size := by omega
  clear hm
  go_enter Try.func28, Try.ntmps28
  go_wp2_with (first
    | (go_at_call 37; refine HSZ.out.mono ?_; rintro e w' ⟨rfl, rfl⟩)
    | (go_at_call 29; refine HCM.out.mono ?_; rintro e w2 ⟨rfl, hc2, hB2⟩; have I0 := HC.out w2 hc2 hB2; clear hc2 hB2))
  obtain ⟨C, hCe⟩ : ∃ C, C = w.heap.size := ⟨_, rfl⟩
  rw [← hCe] at I0 hpC ⊢
  have HWC := Lib.hid hCe
  clear hCe
  go_loopg [7, 8, 16] L.length (fun k _ _ v16 wr => ∃ (i : Nat) (t : ByteArray), v16 = .int .i64 (i : Int) ∧ i ≤ L.length ∧ t.size = s.size ∧ Aside0 (giveE N L s = giveE N (L.drop i) t) ∧ GivI w p C N s t (.slice o L.length c) L wr ∧ k = L.length - i)
  case atStart => exact ⟨0, s, rfl, by omega, rfl, ⟨rfl⟩, I0, rfl⟩
  case round =>
    clear I0
    obtain ⟨i, t, rfl, hi, hts, HG, I, rfl⟩ := hrel
    have HTS := Lib.hid hts
    clear hts
    by_cases hil : i < L.length
    · obtain ⟨x, hx⟩ : ∃ x, L[i]? = some x := ⟨_, List.getElem?_eq_getElem hil⟩
      obtain ⟨a, rfl, g0, g1⟩ := I.row.at' i x hx
      obtain ⟨hxa, hxb⟩ := HB.out x (List.mem_of_getElem? hx)
      have HDr := Lib.hid (show L.drop i = x :: L.drop (i + 1) from by
        rw [List.drop_eq_getElem_cons hil]
        congr 1
        rw [List.getElem?_eq_getElem hil] at hx
        exact Option.some.inj hx)
      obtain ⟨f, m⟩ := x
      simp only at g0 g1 hxa hxb
      have c1 : (i : Int) < (L.length : Int) := by omega
      have c2 : (0 : Int) ≤ (i : Int) := by omega
      have c3 : ((i : Int)).toNat = i := by omega
      rw [← Addr.add_twice] at g1
      have HD := Lib.hid (I.keepB ((Below.refl _ _).alloc (Nat.le_refl _) (.cells #[.int .i64 f, .int .i64 m] 43 (0, 0))))
      have hD := alloc_new wr (.cells #[.int .i64 f, .int .i64 m] 43 (0, 0)) _ rfl
      have hDs : wr.heap.size ≠ C := by have := lt_of_block I.c; omega
      clear hx
      go_wp2_with (refine wpList_load_ext rfl (.tmp 18) rfl (a.add (i * 2)) rfl _ _ g0 g1 ?_)
      obtain ⟨W, hW⟩ : ∃ W, W = wr.alloc (.cells #[.int .i64 f, .int .i64 m] 43 (0, 0)) := ⟨_, rfl⟩
      have I1 := HD.out
      rw [← hW] at I1 hD ⊢
      clear hW HD g0 g1 I
      generalize wr.heap.size = D at hD hDs ⊢
      have q0 : W.cell? ⟨D, 0, none⟩ = some (.int .i64 f) := by rw [block_cell hD]; rfl
      have q1 : W.cell? ⟨D, 1, none⟩ = some (.int .i64 m) := by rw [block_cell hD]; rfl
      have qn := I1.m.c0
      have hno : ¬ (exIn N (f, m) ∧ exUsed t (f, m)) → ∀ W', GivI w p C N s t (.slice (some a) L.length c) L W' → GEnd w p N s (giveE N L s) (.returned (.bool false)) W' := fun h W' I => by
        have e : giveE N L s = none := by rw [HG.out, HDr.out]; exact giveE_stop N h _
        rw [e]
        exact ⟨rfl, I.m, ⟨I.below.os, I.below.tape, I.below.output, I.below.size, fun b hb hp => I.below.block b (HWC.out ▸ hb)⟩⟩
      by_cases hA : m < 1
      · have hx := not_in (N := N) (f := f) (m := m) (t := t) (by omega)
        refine wp_region_quiet_lit (by kernel_rfl) (by kernel_rfl) ?_
        quiet_step (fail)
        quiet_step (fail)
        quiet_step (fail)
        quiet_step (fail)
        refine wpQuiet_skip (by kernel_rfl) ?_
        refine wpQuiet_skip (by kernel_rfl) ?_
        refine wpQuiet_skip (by kernel_rfl) ?_
        quiet_step (fail)
        quiet_step (fail)
        refine wpQuiet_skip (by kernel_rfl) ?_
        refine wpQuiet_skip (by kernel_rfl) ?_
        refine wpQuiet_skip (by kernel_rfl) ?_
        refine wpQuiet_skip (by kernel_rfl) ?_
        refine wpQuiet_skip (by kernel_rfl) ?_
        refine wpQuiet_skip (by kernel_rfl) ?_
        refine wpQuiet_skip (by kernel_rfl) ?_
        quiet_step (fail)
        quiet_step (fail)
        refine wpQuiet_skip (by kernel_rfl) ?_
        refine wpQuiet_skip (by kernel_rfl) ?_
        refine wpQuiet_skip (by kernel_rfl) ?_
        refine wpQuiet_skip (by kernel_rfl) ?_
        refine wpQuiet_skip (by kernel_rfl) ?_
        refine wpQuiet_skip (by kernel_rfl) ?_
        refine wpQuiet_skip (by kernel_rfl) ?_
        refine wpQuiet_skip (by kernel_rfl) ?_
        refine wpQuiet_skip (by kernel_rfl) ?_
        refine wpQuiet_skip (by kernel_rfl) ?_
        quiet_step (fail)
        refine wpQuiet_nil ?_
        intro _ hw'
        obtain ⟨nq, hw''⟩ := hw'
        subst hw''
        go_wp2
        go_ret
        exact hno hx _ (I1.keepB (pw_below_drewN (Below.refl _ _) _))
      · by_cases hB : f < 0
        · have hx := not_in (N := N) (f := f) (m := m) (t := t) (by omega)
          refine wp_region_quiet_lit (by kernel_rfl) (by kernel_rfl) ?_
          quiet_step (fail)
          quiet_step (fail)
          quiet_step (fail)
          quiet_step (fail)
          quiet_step (fail)
          quiet_step (fail)
          quiet_step (fail)
          quiet_step (fail)
          quiet_step (fail)
          refine wpQuiet_skip (by kernel_rfl) ?_
          refine wpQuiet_skip (by kernel_rfl) ?_
          refine wpQuiet_skip (by kernel_rfl) ?_
          refine wpQuiet_skip (by kernel_rfl) ?_
          refine wpQuiet_skip (by kernel_rfl) ?_
          refine wpQuiet_skip (by kernel_rfl) ?_
          refine wpQuiet_skip (by kernel_rfl) ?_
          quiet_step (fail)
          quiet_step (fail)
          refine wpQuiet_skip (by kernel_rfl) ?_
          refine wpQuiet_skip (by kernel_rfl) ?_
          refine wpQuiet_skip (by kernel_rfl) ?_
          refine wpQuiet_skip (by kernel_rfl) ?_
          refine wpQuiet_skip (by kernel_rfl) ?_
          refine wpQuiet_skip (by kernel_rfl) ?_
          refine wpQuiet_skip (by kernel_rfl) ?_
          refine wpQuiet_skip (by kernel_rfl) ?_
          refine wpQuiet_skip (by kernel_rfl) ?_
          refine wpQuiet_skip (by kernel_rfl) ?_
          quiet_step (fail)
          refine wpQuiet_nil ?_
          intro _ hw'
          obtain ⟨nq, hw''⟩ := hw'
          subst hw''
          go_wp2
          go_ret
          exact hno hx _ (I1.keepB (pw_below_drewN (Below.refl _ _) _))
        · by_cases hCc : (N : Int) ≤ f
          · have hx := not_in (N := N) (f := f) (m := m) (t := t) (by omega)
            refine wp_region_quiet_lit (by kernel_rfl) (by kernel_rfl) ?_
            quiet_step (fail)
            quiet_step (fail)
            quiet_step (fail)
            quiet_step (fail)
            quiet_step (fail)
            quiet_step (fail)
            quiet_step (fail)
            quiet_step (fail)
            quiet_step (fail)
            quiet_step (fail)
            quiet_step (fail)
            quiet_step (fail)
            quiet_step (fail)
            quiet_step (fail)
            quiet_step (fail)
            quiet_step (fail)
            quiet_step (fail)
            quiet_step (fail)
            refine wpQuiet_skip (by kernel_rfl) ?_
            refine wpQuiet_skip (by kernel_rfl) ?_
            refine wpQuiet_skip (by kernel_rfl) ?_
            refine wpQuiet_skip (by kernel_rfl) ?_
            refine wpQuiet_skip (by kernel_rfl) ?_
            refine wpQuiet_skip (by kernel_rfl) ?_
            refine wpQuiet_skip (by kernel_rfl) ?_
            refine wpQuiet_skip (by kernel_rfl) ?_
            refine wpQuiet_skip (by kernel_rfl) ?_
            refine wpQuiet_skip (by kernel_rfl) ?_
            quiet_step (fail)
            refine wpQuiet_nil ?_
            intro _ hw'
            obtain ⟨nq, hw''⟩ := hw'
            subst hw''
            go_wp2
            go_ret
            exact hno hx _ (I1.keepB (pw_below_drewN (Below.refl _ _) _))
          · have hw : IntKind.i64.wrap ((N : Int) - f) = (N : Int) - f := by rw [IntKind.wrap_i64]; omega
            by_cases hE : (N : Int) - f < m
            · have hx := not_in (N := N) (f := f) (m := m) (t := t) (by omega)
              refine wp_region_quiet_lit (by kernel_rfl) (by kernel_rfl) ?_
              quiet_step (fail)
              quiet_step (fail)
              quiet_step (fail)
              quiet_step (fail)
              quiet_step (fail)
              quiet_step (fail)
              quiet_step (fail)
              quiet_step (fail)
              quiet_step (fail)
              quiet_step (fail)
              quiet_step (fail)
              quiet_step (fail)
              quiet_step (fail)
              quiet_step (fail)
              quiet_step (fail)
              quiet_step (fail)
              quiet_step (fail)
              quiet_step (fail)
              quiet_step (fail)
              quiet_step (fail)
              quiet_step (fail)
              quiet_step (fail)
              quiet_step (fail)
              quiet_step (fail)
              quiet_step (fail)
              quiet_step (fail)
              quiet_step (fail)
              quiet_step (fail)
              quiet_step (fail)
              refine wpQuiet_nil ?_
              intro _ hw'
              obtain ⟨nq, hw''⟩ := hw'
              subst hw''
              go_wp2
              go_ret
              exact hno hx _ (I1.keepB (pw_below_drewN (Below.refl _ _) _))
            · have hin : 1 ≤ m ∧ 0 ≤ f ∧ f < (N : Int) ∧ m ≤ (N : Int) - f := by omega
              refine wp_region_quiet_lit (by kernel_rfl) (by kernel_rfl) ?_
              quiet_step (fail)
              quiet_step (fail)
              quiet_step (fail)
              quiet_step (fail)
              quiet_step (fail)
              quiet_step (fail)
              quiet_step (fail)
              quiet_step (fail)
              quiet_step (fail)
              quiet_step (fail)
              quiet_step (fail)
              quiet_step (fail)
              quiet_step (fail)
              quiet_step (fail)
              quiet_step (fail)
              quiet_step (fail)
              quiet_step (fail)
              quiet_step (fail)
              quiet_step (fail)
              quiet_step (fail)
              quiet_step (fail)
              quiet_step (fail)
              quiet_step (fail)
              quiet_step (fail)
              quiet_step (fail)
              quiet_step (fail)
              quiet_step (fail)
              quiet_step (fail)
              quiet_step (fail)
              refine wpQuiet_nil ?_
              intro _ hw'
              obtain ⟨nq, hw''⟩ := hw'
              subst hw''
              go_wp2
              obtain ⟨f, rfl⟩ := Int.eq_ofNat_of_zero_le hin.2.1
              obtain ⟨m, rfl⟩ := Int.eq_ofNat_of_zero_le (show 0 ≤ m by omega)
              clear hA hB hCc hE hw hxa hxb
              go_loopg [8, 51] m (fun k _ v51 W2 => ∃ j : Nat, v51 = .int .i64 (j : Int) ∧ j ≤ m ∧ (∀ q : Nat, q < j → hasI t ((f : Int) + (q : Int)) = true) ∧ GivI w p C N s t (.slice (some a) L.length c) L W2 ∧ W2.heap[D]? = some (.cells #[.int .i64 (f : Int), .int .i64 (m : Int)] 43 (0, 0)) ∧ k = m - j)
              case atStart => exact ⟨0, rfl, by omega, (fun q hq => by omega), I1.keepB (pw_below_drewN (Below.refl _ _) nq), hD, rfl⟩
              case round =>
                clear I1 hD q0 q1 qn
                obtain ⟨j, rfl, hj, hall, I1, hD, rfl⟩ := hrel
                have q0 : wr.cell? ⟨D, 0, none⟩ = some (.int .i64 (f : Int)) := by rw [block_cell hD]; rfl
                have HA := Lib.hid hall
                clear hall
                by_cases hjm : j < m
                · have d1 : (j : Int) < (m : Int) := by omega
                  have hw1 : IntKind.i64.wrap ((f : Int) + (j : Int)) = (f : Int) + (j : Int) := by rw [IntKind.wrap_i64]; omega
                  have r1 := I1.c.c1
                  have HH := Lib.hid (show ∀ w, Calls Try.prog 17 #[.string t, .int .i64 ((f : Int) + (j : Int))] w fun e w' => e = .returned (.bool (hasI t ((f : Int) + (j : Int)))) ∧ ∃ n, w' = w.drewN n from fun w => (has_at t _ w (by have := HTS.out; omega) (by unfold I64; omega)).mono fun e w' ⟨x, y⟩ => ⟨x, y.out⟩)
                  cases hb : hasI t ((f : Int) + (j : Int)) with
                  | true =>
                    rw [hb] at HH
                    have HA2 := Lib.hid (show ∀ q : Nat, q < j + 1 → hasI t ((f : Int) + (q : Int)) = true from fun q hq => by
                      by_cases e : q = j
                      · rw [e]; exact hb
                      · exact HA.out q (by omega))
                    clear hb
                    go_wp2
                    refine wp_region_quiet_lit (by kernel_rfl) (by kernel_rfl) ?_
                    quiet_step (fail)
                    quiet_step (fail)
                    quiet_step (fail)
                    quiet_step (fail)
                    quiet_step (fail)
                    quiet_step (fail)
                    quiet_step (fail)
                    quiet_step (fail)
                    quiet_step ((go_at_call 17; exact Calls.quiet_of (HH.out _)))
                    quiet_step (fail)
                    refine wpQuiet_nil ?_
                    intro _ hw'
                    obtain ⟨n2, hw''⟩ := hw'
                    subst hw''
                    clear hw1 r1
                    go_wp2
                    go_roundg (m - (j + 1))
                    case measure => omega
                    case rel => exact ⟨j + 1, by simp, by omega, HA2.out, I1.keepB (pw_below_drewN (Below.refl _ _) n2), hD, rfl⟩
                  | false =>
                    rw [hb] at HH
                    have hx := not_used (N := N) (m := (m : Int)) j d1 hb
                    clear hb
                    go_wp2
                    refine wp_region_quiet_lit (by kernel_rfl) (by kernel_rfl) ?_
                    quiet_step (fail)
                    quiet_step (fail)
                    quiet_step (fail)
                    quiet_step (fail)
                    quiet_step (fail)
                    quiet_step (fail)
                    quiet_step (fail)
                    quiet_step (fail)
                    quiet_step ((go_at_call 17; exact Calls.quiet_of (HH.out _)))
                    quiet_step (fail)
                    refine wpQuiet_nil ?_
                    intro _ hw'
                    obtain ⟨n2, hw''⟩ := hw'
                    subst hw''
                    go_wp2
                    go_ret
                    exact hno hx _ (I1.keepB (pw_below_drewN (Below.refl _ _) _))
                · have d1 : ¬ (j : Int) < (m : Int) := by omega
                  have ejm : j = m := by omega
                  subst ejm
                  have HU := Lib.hid (is_in (N := N) (f := (f : Int)) (m := (j : Int)) (t := t) hin (fun k hk => HA.out k (by omega)))
                  have Id := I1
                  have hDd := hD
                  clear I1 hD q0 hno
                  have q0 : wr.cell? ⟨D, 0, none⟩ = some (.int .i64 (f : Int)) := by rw [block_cell hDd]; rfl
                  have q1 : wr.cell? ((⟨D, 0, none⟩ : Addr).add 1) = some (.int .i64 (j : Int)) := by rw [add_zero, block_cell hDd]; rfl
                  have Ia := Id.keepB ((Below.refl _ _).alloc (Nat.le_refl _) (.cells #[.int .i64 (f : Int), .int .i64 (j : Int)] 43 (0, 0)))
                  have hnew := alloc_new wr (.cells #[.int .i64 (f : Int), .int .i64 (j : Int)] 43 (0, 0)) _ rfl
                  have HSet := Lib.hid (show Calls Try.prog 47 #[.pointer (some ⟨C, 0, none⟩), .slice (some ⟨wr.heap.size, 0, none⟩) 1 1, .bool false] (wr.alloc (.cells #[.int .i64 (f : Int), .int .i64 (j : Int)] 43 (0, 0))) fun e w' => e = .returned (.tuple #[]) ∧ MapAt w' C N (setN false (f : Int) j t) ∧ OnlyAt C (wr.alloc (.cells #[.int .i64 (f : Int), .int .i64 (j : Int)] 43 (0, 0))) w' from by
                    refine set_calls _ C N t _ [((f : Int), (j : Int))] false Ia.c (.inr ⟨⟨wr.heap.size, 0, none⟩, 1, rfl, fun i x hi => ?_⟩) (fun a l c e _ => ?_) (by show 1 ≤ 1000000; omega) (fun x hx => ?_)
                    · match i with
                      | 0 =>
                        simp at hi
                        subst hi
                        rw [add_zero, add_zero, block_cell hnew, block_cell hnew]
                        exact ⟨rfl, rfl⟩
                      | i + 1 => simp at hi
                    · obtain ⟨e1, _, _⟩ := Value.slice.inj e
                      obtain rfl := Option.some.inj e1
                      have := lt_of_block Id.c
                      show wr.heap.size ≠ C
                      omega
                    · simp at hx
                      subst hx
                      show 0 ≤ (f : Int) ∧ (f : Int) ≤ 1000000000 ∧ 0 ≤ (j : Int) ∧ (j : Int) ≤ 1000000000
                      omega)
                  have hG2 : giveE N L s = giveE N (L.drop (i + 1)) (setN false (f : Int) j t) := by
                    rw [HG.out, HDr.out, giveE_step N HU.out]
                    rfl
                  have HG2 := Aside0.mk hG2
                  have hts2 : (setN false (f : Int) j t).size = s.size := by rw [setN_size]; exact HTS.out
                  clear hnew hDd hDs hG2
                  go_wp2_with (first
                    | (refine wpList_load_ext rfl (.tmp 7) rfl ⟨D, 0, none⟩ rfl _ _ q0 q1 ?_)
                    | (go_at_call 47; refine HSet.out.mono ?_; rintro e w3 ⟨rfl, hm3, ho3⟩; have I3 := Ia.put hpC ho3 hm3))
                  go_roundg (L.length - (i + 1))
                  case measure => clear c1 c2 c3 d1; omega
                  case rel => exact ⟨i + 1, _, by simp, by omega, hts2, HG2, I3, rfl⟩
    · have eil : i = L.length := by omega
      subst eil
      have hG2 : giveE N L s = some t := by rw [HG.out, List.drop_of_length_le (Nat.le_refl _), giveE_nil]
      have HG2 := Lib.hid hG2
      have x1 := I.c.c1
      have x2 := I.m.c1
      have fz := block_frozen I.m 1
      clear hG2
      go_wp2
      go_ret
      have hO : OnlyAt p w wr := ⟨I.below.os, I.below.tape, I.below.output, I.below.size, fun b hb hp => I.below.block b (HWC.out ▸ hb)⟩
      unfold GEnd
      rw [HG2.out]
      exact ⟨rfl, I.m.set t, hO.set _ _⟩
end Go.Proofs.Ytidnkckfkgaooaa.Al
