/- Al29, Al30, Al31, Al32, put together. -/
import Derived.Test.YtidnkckfkgaooaaAlE
import Derived.Test.YtidnkckfkgaooaaAl24
/- The document's map: how many blocks from one on are not in use; two lists of extents: the same?: the walks. -/
namespace Go.Proofs.Ytidnkckfkgaooaa.Al
open Go.RowKit Go.Shelf Go.Proofs Go.Proofs.Ytidnkckfkgaooaa.Ext Go.Proofs.Ytidnkckfkgaooaa.Pure Go.Proofs.YtidnkckfkgaooaaW.PrintWords Go.Proofs.YtidnkckfkgaooaaW.PrintLast Go.Proofs.YtidnkckfkgaooaaW.PrintMore

/-- How many blocks from one on are not in use, of so many that are left. -/
def runG (f : Nat → Bool) : Nat → Nat → Nat
  | 0, _ => 0
  | d + 1, i => if f i = false then runG f d (i + 1) + 1 else 0
def runN (f : Nat → Bool) (N i : Nat) : Nat := runG f (N - i) i
theorem runG_spec (f : Nat → Bool) : ∀ (d i : Nat), runG f d i ≤ d ∧ (∀ j, j < runG f d i → f (i + j) = false) ∧ (runG f d i = d ∨ f (i + runG f d i) = true)
  | 0, i => ⟨Nat.le_refl _, fun j hj => (by cases hj), .inl rfl⟩
  | d + 1, i => by
    obtain ⟨h1, h2, h3⟩ := runG_spec f d (i + 1)
    unfold runG
    cases h : f i with
    | true =>
      rw [if_neg (by decide)]
      exact ⟨by omega, fun j hj => by omega, .inr h⟩
    | false =>
      rw [if_pos rfl]
      refine ⟨by omega, fun j hj => ?_, ?_⟩
      · cases j with
        | zero => exact h
        | succ j =>
          rw [show i + (j + 1) = i + 1 + j from by omega]
          exact h2 j (by omega)
      · rcases h3 with h3 | h3
        · exact .inl (by omega)
        · right
          rw [show i + (runG f d (i + 1) + 1) = i + 1 + runG f d (i + 1) from by omega]
          exact h3
/-- What is known of the number makes it this one. -/
theorem runN_eq {f : Nat → Bool} {N i n : Nat} (hi : i ≤ N) (h1 : i + n ≤ N) (h2 : ∀ j, j < n → f (i + j) = false) (h3 : i + n = N ∨ f (i + n) = true) : runN f N i = n := by
  obtain ⟨g1, g2, g3⟩ := runG_spec f (N - i) i
  unfold runN
  rcases Nat.lt_trichotomy (runG f (N - i) i) n with h | h | h
  · rcases g3 with g3 | g3
    · omega
    · rw [h2 _ h] at g3
      cases g3
  · exact h
  · rcases h3 with h3 | h3
    · omega
    · rw [g2 _ h] at h3
      cases h3
theorem runN_le (f : Nat → Bool) (N i : Nat) (hi : i ≤ N) : i + runN f N i ≤ N := by
  have := (runG_spec f (N - i) i).1
  unfold runN
  omega
attribute [local irreducible] runN
set_option maxRecDepth 100000 in
set_option maxHeartbeats 2000000 in
theorem refRun_calls (w : World) (base q g cap N : Nat) (f : Nat → Bool) (h : RAt w base q g cap N f) (hN : N ≤ 4096) (i : Nat) (hi : i ≤ N) : Calls Try.prog 48 #[.pointer (some ⟨q, 0, none⟩), .int .i64 (i : Int)] w fun e w' => e = .returned (.int .i64 (runN f N i : Int)) ∧ w = w' := by
  have c0 := h.c0
  have HB := Lib.hid h.bit
  clear h
  generalize (⟨g, 0, none⟩ : Addr) = a at *
  go_enter Try.func48, Try.ntmps48
  go_wp2
  go_loopg [5] (N - i) (fun k v5 wr => ∃ n : Nat, v5 = .int .i64 (n : Int) ∧ i + n ≤ N ∧ (∀ j, j < n → f (i + j) = false) ∧ wr = w ∧ k = N - i - n)
  case atStart => exact ⟨0, rfl, by omega, fun j hj => by omega, rfl, rfl⟩
  case round =>
    obtain ⟨n, rfl, hn, hall, rfl, rfl⟩ := hrel
    have HA := Lib.hid hall
    clear hall
    have w1 : IntKind.i64.wrap ((i : Int) + (n : Int)) = (i : Int) + (n : Int) := by rw [IntKind.wrap_i64]; omega
    by_cases hl : i + n < N
    · have c1 : (i : Int) + (n : Int) < (N : Int) := by omega
      have c3 : ((i : Int) + (n : Int)).toNat = i + n := by omega
      have c4 : (0 : Int) ≤ (i : Int) + (n : Int) := by omega
      have hb := HB.out (i + n) hl
      cases hf : f (i + n) with
      | true =>
        rw [hf] at hb
        have HE := Lib.hid (show runN f N i = n from runN_eq hi hn HA.out (.inr hf))
        clear hf
        go_wp2
        go_ret
        exact ⟨by rw [HE.out]; rfl, rfl⟩
      | false =>
        rw [hf] at hb
        have HA2 := Lib.hid (show ∀ j, j < n + 1 → f (i + j) = false from fun j hj => by
          by_cases e : j = n
          · rw [e]; exact hf
          · exact HA.out j (by omega))
        clear hf
        go_wp2
        go_roundg (N - i - (n + 1))
        case measure => omega
        case rel => exact ⟨n + 1, by simp, by omega, HA2.out, rfl, rfl⟩
    · have c1 : ¬ (i : Int) + (n : Int) < (N : Int) := by omega
      have HE := Lib.hid (show runN f N i = n from runN_eq hi hn HA.out (.inl (by omega)))
      go_wp2
      go_ret
      exact ⟨by rw [HE.out]; rfl, rfl⟩
end Go.Proofs.Ytidnkckfkgaooaa.Al
/- Two lists of extents that are the same: the walk. -/
namespace Go.Proofs.Ytidnkckfkgaooaa.Al
open Go.RowKit Go.Shelf Go.Proofs Go.Proofs.Ytidnkckfkgaooaa.Ext Go.Proofs.Ytidnkckfkgaooaa.Pure Go.Proofs.YtidnkckfkgaooaaW.PrintWords Go.Proofs.YtidnkckfkgaooaaW.PrintLast Go.Proofs.YtidnkckfkgaooaaW.PrintMore
attribute [local irreducible] Go.wpQuiet
set_option maxHeartbeats 2000000 in
theorem extents_same (w : World) (va vb : Value) (L : List (Int × Int)) (ha : ExRow w va L) (hb : ExRow w vb L) (hL : L.length ≤ 1000) : Calls Try.prog 35 #[va, vb] w fun e w' => e = .returned (.bool true) ∧ Drawn0 w w' := by
  obtain ⟨o1, c1, rfl⟩ := ha.form
  obtain ⟨o2, c2, rfl⟩ := hb.form
  go_enter Try.func35, Try.ntmps35
  go_wp2
  go_loopg [5] L.length (fun k v5 wr => ∃ i d : Nat, v5 = .int .i64 (i : Int) ∧ i ≤ L.length ∧ wr = w.drewN d ∧ k = L.length - i)
  case atStart => exact ⟨0, 0, rfl, by omega, rfl, rfl⟩
  case round =>
    obtain ⟨i, d, rfl, hi, rfl, rfl⟩ := hrel
    by_cases hil : i < L.length
    · have k1 : (i : Int) < (L.length : Int) := by omega
      have k2 : ((i : Int)).toNat = i := by omega
      have k3 : (0 : Int) ≤ (i : Int) := by omega
      obtain ⟨y, hy⟩ : ∃ y, L[i]? = some y := ⟨_, List.getElem?_eq_getElem hil⟩
      obtain ⟨a1, rfl, _⟩ := ha.at' i y hy
      obtain ⟨a2, rfl, _⟩ := hb.at' i y hy
      obtain ⟨p0, p1⟩ := row_at ha i y hy
      obtain ⟨q0, q1⟩ := row_at hb i y hy
      clear ha hb hy
      go_wp2
      refine wp_region_quiet_lit (by kernel_rfl) (by kernel_rfl) ?_
      quiet_step (fail)
      quiet_step (fail)
      quiet_step (fail)
      quiet_step (fail)
      quiet_step (fail)
      quiet_step (fail)
      quiet_step (fail)
      quiet_step (fail)
      quiet_step (fail)
      refine wpQuiet_nil ?_
      intro _ hw'
      obtain ⟨nq, hw''⟩ := hw'
      subst hw''
      go_wp2
      go_roundg (L.length - (i + 1))
      case measure => omega
      case rel => exact ⟨i + 1, _, by simp, by omega, rfl, rfl⟩
    · have k1 : ¬ (i : Int) < (L.length : Int) := by omega
      go_wp2
      go_ret
      exact ⟨rfl, ⟨d, rfl⟩⟩
end Go.Proofs.Ytidnkckfkgaooaa.Al
/- The document's map: Give: the walk. -/
namespace Go.Proofs.Ytidnkckfkgaooaa.Al
open Go.RowKit Go.Shelf Go.Proofs Go.Proofs.Ytidnkckfkgaooaa.Ext Go.Proofs.Ytidnkckfkgaooaa.Pure Go.Proofs.YtidnkckfkgaooaaW.PrintWords Go.Proofs.YtidnkckfkgaooaaW.PrintLast Go.Proofs.YtidnkckfkgaooaaW.PrintMore

/-- A list of bools of the call's own. -/
structure CRow (w : World) (g cap N : Nat) (f : Nat → Bool) (W : World) : Prop where
  below : Below w.heap.size w W
  row : W.ownsRow w.heap.size 4 1 (.slice (some ⟨g, 0, none⟩) N cap) N (bitsV f N)
theorem CRow.hg {w W : World} {g cap N : Nat} {f : Nat → Bool} (h : CRow w g cap N f W) : w.heap.size ≤ g ∧ g < W.heap.size := h.row.lt g rfl
theorem CRow.keepB {w W W' : World} {g cap N : Nat} {f : Nat → Bool} (h : CRow w g cap N f W) (hB : Below W.heap.size W W') : CRow w g cap N f W' :=
  ⟨h.below.trans (hB.mono h.below.size), ownsRow_block h.row (fun k hk => hB.block k (h.row.lt k hk).2)⟩
theorem CRow.bit {w W : World} {g cap N : Nat} {f : Nat → Bool} (h : CRow w g cap N f W) (i : Nat) (hi : i < N) : W.cell? ((⟨g, 0, none⟩ : Addr).add i) = some (.bool (f i)) := by
  rw [add_zero, h.row.cellAt i (by omega), bitsV_get f N i hi]
theorem CRow.frozen {w W : World} {g cap N : Nat} {f : Nat → Bool} (h : CRow w g cap N f W) (i : Nat) : W.frozen? ((⟨g, 0, none⟩ : Addr).add i) = false := by
  rw [add_zero]
  exact h.row.frozenAt i
theorem CRow.set {w W : World} {g cap N : Nat} {f : Nat → Bool} (h : CRow w g cap N f W) (i : Nat) (b : Bool) : CRow w g cap N (fun j => if j = i then b else f j) (W.setCell ((⟨g, 0, none⟩ : Addr).add i) (.bool b)) := by
  rw [add_zero]
  obtain ⟨h1, _⟩ := h.row.stored i (.bool b)
  rw [bitsV_set] at h1
  exact ⟨h.below.setCell (p := ⟨g, i, none⟩) h.hg.1 _, h1⟩
theorem CRow.congr {w W : World} {g cap N : Nat} {f k : Nat → Bool} (h : CRow w g cap N f W) (e : ∀ i, i < N → f i = k i) : CRow w g cap N k W :=
  ⟨h.below, by rw [← bitsV_congr e]; exact h.row⟩
/-- What the document's Give answers. -/
def RGEnd (w : World) (base q g N : Nat) (s : ByteArray) (r : Option ByteArray) (e : Ending) (w' : World) : Prop :=
  e = .returned (.bool r.isSome) ∧ (∃ g' cap, RAt w' base q g' cap N (hasB (r.getD s)) ∧ (g' = g ∨ w.heap.size ≤ g')) ∧ OnlyAt q w w'
/-- Some blocks of an extent taken out. -/
def outF (t : ByteArray) (F j i : Nat) : Bool := if F ≤ i ∧ i < F + j then false else hasB t i
theorem outF_zero (t : ByteArray) (F i : Nat) : hasB t i = outF t F 0 i := by
  unfold outF
  rw [if_neg (by omega)]
theorem outF_step (t : ByteArray) (F j i : Nat) : (if i = F + j then false else outF t F j i) = outF t F (j + 1) i := by
  unfold outF
  by_cases e : i = F + j
  · rw [if_pos e, if_pos (by omega)]
  · rw [if_neg e]
    by_cases h : F ≤ i ∧ i < F + j
    · rw [if_pos h, if_pos (by omega)]
    · rw [if_neg h, if_neg (by omega)]
theorem outF_at (t : ByteArray) (F j : Nat) : outF t F j (F + j) = hasB t (F + j) := by
  unfold outF
  rw [if_neg (by omega)]
theorem outF_all {t : ByteArray} {N : Nat} (h : Bits t N (hasB t)) (F C i : Nat) (hFC : F + C ≤ N) (hi : i < N) : outF t F C i = hasB (setN false (F : Int) C t) i := by
  rw [(setN_bits h false F C hFC).at i hi]
  rfl
attribute [local irreducible] giveE setN Bits outF exIn exUsed Go.wpQuiet
set_option maxRecDepth 100000 in
set_option maxHeartbeats 8000000 in
theorem refGive_calls (w : World) (base q g cap N : Nat) (s : ByteArray) (v : Value) (L : List (Int × Int)) (h : RAt w base q g cap N (hasB s)) (hs : Bits s N (hasB s)) (h1 : 1 ≤ N) (hN : N ≤ 4096) (hr : ExRow w v L) (hL : L.length ≤ 1000000) (hb : ∀ x ∈ L, I64 x.1 ∧ I64 x.2) (hbw : base ≤ w.heap.size) :
    Calls Try.prog 33 #[.pointer (some ⟨q, 0, none⟩), v] w (RGEnd w base q g N s (giveE N L s)) := by
  obtain ⟨o, c, rfl⟩ := hr.form
  obtain ⟨i0, hi, hz0, hz1, hz2⟩ := info_parts info4
  have HI := Lib.hid (And.intro hi (And.intro hz0 (And.intro hz1 hz2)))
  clear hi hz0 hz1 hz2
  have c0 := h.c0
  have hqw := lt_of_block h.m
  have HB := Lib.hid hb
  have HR := Lib.hid hr
  have HA := Lib.hid h
  have hno : ∀ W', Below w.heap.size w W' → giveE N L s = none → RGEnd w base q g N s (giveE N L s) (.returned (.bool false)) W' := fun W' hB e => by
    rw [e]
    exact ⟨rfl, ⟨g, cap, h.keepB hB, .inl rfl⟩, .of hB⟩
  have HNO := Lib.hid hno
  clear hno hb hr
  have hcell : ∀ j u, (bitsV (hasB s) N)[j]? = some u → w.cell? ((⟨g, 0, none⟩ : Addr).add j) = some u := fun j u hj => by
    have hj2 : j < N := by
      have := (List.getElem?_eq_some_iff.1 hj).1
      rw [bitsV_length] at this
      exact this
    rw [bitsV_get _ _ _ hj2] at hj
    rw [h.bit j hj2]
    exact hj
  have HCL := Lib.hid hcell
  clear h hcell
  go_enter Try.func33, Try.ntmps33
  go_wp2_with (at_builtin; refine wpList_append_own _ rfl (.const (.slice none 0 0)) (.tmp 11) 65 rfl w.heap.size 4 i0 (.bool false) 1 1 Try.underlying65 HI.out.1 HI.out.2.1 HI.out.2.2.1 HI.out.2.2.2 rfl (by decide) (.slice none 0 0) 0 [] rfl (World.ownsRow_nil _ _ _ _) ⟨g, 0, none⟩ N cap (bitsV (hasB s) N) rfl (by rw [bitsV_length]; omega) HCL.out (bitsV_one _ _) (by unfold maxLen; omega) (by omega) (Nat.le_refl _) ?_; intro v' w1 hown hgr hnil; rw [Nat.zero_add, List.nil_append] at hown; obtain ⟨gc, cc, rfl⟩ : ∃ gc cc, v' = .slice (some ⟨gc, 0, none⟩) N cc := by (obtain ⟨n, rfl⟩ : ∃ n, N = n + 1 := ⟨N - 1, by omega⟩; exact ownsRow_succ hown))
  have I0 : CRow w gc cc N (hasB s) w1 := ⟨⟨hgr.os, hgr.tape, hgr.output, hgr.size, fun k hk => hgr.block k hk (by simp [Value.ownBlock])⟩, hown⟩
  clear hown hgr hnil
  obtain ⟨ac, hac⟩ : ∃ ac, ac = (⟨gc, 0, none⟩ : Addr) := ⟨_, rfl⟩
  rw [← hac]
  have HAC := Lib.hid hac
  clear hac
  have HBS := Lib.hid hs
  clear hs
  go_loopg [6, 7] L.length (fun k v6 _ wr => ∃ (i : Nat) (t : ByteArray), v6 = .int .i64 (i : Int) ∧ i ≤ L.length ∧ Aside0 (giveE N L s = giveE N (L.drop i) t ∧ Bits t N (hasB t)) ∧ CRow w gc cc N (hasB t) wr ∧ k = L.length - i)
  case atStart => exact ⟨0, s, rfl, by omega, ⟨by rw [List.drop_zero], HBS.out⟩, I0, rfl⟩
  case round =>
    clear I0
    obtain ⟨i, t, rfl, hi, HG, I, rfl⟩ := hrel
    by_cases hil : i < L.length
    · have k1 : (i : Int) < (L.length : Int) := by omega
      have k2 : ((i : Int)).toNat = i := by omega
      have k3 : (0 : Int) ≤ (i : Int) := by omega
      obtain ⟨y, hy⟩ : ∃ y, L[i]? = some y := ⟨_, List.getElem?_eq_getElem hil⟩
      obtain ⟨hy1, hy2⟩ := HB.out y (List.mem_of_getElem? hy)
      obtain ⟨a, rfl, _⟩ := HR.out.at' i y hy
      have HDr := Lib.hid (show L.drop i = y :: L.drop (i + 1) from by
        rw [List.drop_eq_getElem_cons hil]
        congr 1
        rw [List.getElem?_eq_getElem hil] at hy
        exact Option.some.inj hy)
      have HLK := Lib.hid (show ∀ W, Below w.heap.size w W → W.cell? (a.add (i * 2)) = some (.int .i64 y.1) ∧ W.cell? ⟨(a.add (i * 2)).block, (a.add (i * 2)).off + 1, none⟩ = some (.int .i64 y.2) from fun W hB => row_at (HR.out.keepB hB) i y hy)
      obtain ⟨f0, m0⟩ := y
      simp only at hy1 hy2 HLK
      unfold I64 at hy1 hy2
      clear hy
      obtain ⟨p0, p1⟩ := HLK.out wr I.below
      have HST := Lib.hid (show ¬ (exIn N (f0, m0) ∧ exUsed t (f0, m0)) → giveE N L s = none from fun h => by rw [HG.out.1, HDr.out]; exact giveE_stop N h _)
      by_cases hA1 : m0 < 1
      · have HE := Lib.hid (HNO.out wr I.below (HST.out (not_in (by omega))))
        go_wp2
        go_ret
        exact HE.out
      · by_cases hA2 : (N : Int) < m0
        · have HE := Lib.hid (HNO.out wr I.below (HST.out (not_in (by omega))))
          go_wp2
          go_ret
          exact HE.out
        · by_cases hA3 : f0 < 0
          · have HE := Lib.hid (HNO.out wr I.below (HST.out (not_in (by omega))))
            go_wp2
            go_ret
            exact HE.out
          · by_cases hA4 : (N : Int) < f0
            · have HE := Lib.hid (HNO.out wr I.below (HST.out (not_in (by omega))))
              go_wp2
              go_ret
              exact HE.out
            · obtain ⟨F, rfl⟩ := Int.eq_ofNat_of_zero_le (show 0 ≤ f0 by omega)
              obtain ⟨C, rfl⟩ := Int.eq_ofNat_of_zero_le (show 0 ≤ m0 by omega)
              have C1 : 1 ≤ C := by omega
              have C2 : C ≤ N := by omega
              have F2 : F ≤ N := by omega
              clear hy1 hy2
              have w1' : IntKind.i64.wrap ((F : Int) + (C : Int)) = (F : Int) + (C : Int) := by rw [IntKind.wrap_i64]; omega
              go_wp2
              clear p0 p1
              go_loopg [7] C (fun k v7 wr2 => ∃ n j : Nat, v7 = .int .i64 (n : Int) ∧ F ≤ n ∧ j ≤ C ∧ Aside0 (n = F + j ∧ ∀ x, x < j → F + x < N ∧ hasB t (F + x) = true) ∧ CRow w gc cc N (outF t F j) wr2 ∧ k = C - j)
              case atStart => exact ⟨F, 0, rfl, by omega, by omega, ⟨rfl, fun x hx => by omega⟩, I.congr fun x _ => outF_zero t F x, rfl⟩
              case round =>
                clear I
                obtain ⟨n, j, rfl, hFn, hj, HN, I, rfl⟩ := hrel
                obtain ⟨p0, p1⟩ := HLK.out wr I.below
                by_cases hjl : j < C
                · have c5 : (n : Int) < (F : Int) + (C : Int) := by have := HN.out.1; omega
                  have c6 : ((n : Int)).toNat = n := by omega
                  have c7 : (0 : Int) ≤ (n : Int) := by omega
                  have hnl : n ≤ 8192 := by omega
                  go_wp2
                  refine wp_region_quiet_lit (by kernel_rfl) (by kernel_rfl) ?_
                  quiet_step (fail)
                  quiet_step (fail)
                  quiet_step (fail)
                  quiet_step (fail)
                  quiet_step (fail)
                  quiet_step (fail)
                  quiet_step (fail)
                  quiet_step (fail)
                  quiet_step (fail)
                  quiet_step (fail)
                  quiet_step (fail)
                  quiet_step (fail)
                  quiet_step (fail)
                  refine wpQuiet_nil ?_
                  intro _ hw'
                  obtain ⟨nq, hw''⟩ := hw'
                  subst hw''
                  have I2 := I.keepB (pw_below_drewN (Below.refl _ _) nq)
                  clear I p0 p1
                  generalize wr.drewN nq = W2 at *
                  by_cases hnN : n < N
                  · have c8 : ¬ (N : Int) ≤ (n : Int) := by omega
                    have c9 : (n : Int) < (N : Int) := by omega
                    have hbit := I2.bit n hnN
                    have hfz := I2.frozen n
                    have HI3 := Lib.hid (I2.set n false)
                    rw [← HAC.out] at hbit hfz HI3
                    have hov : outF t F j n = hasB t n := by rw [HN.out.1]; exact outF_at t F j
                    cases hf : hasB t n with
                    | false =>
                      rw [hov, hf] at hbit
                      have HE := Lib.hid (HNO.out W2 I2.below (HST.out (not_used j (by omega) (by rw [show (F : Int) + (j : Int) = ((F + j : Nat) : Int) from by omega, hasI_nat, ← HN.out.1]; exact hf))))
                      clear hov hf
                      go_wp2
                      go_ret
                      exact HE.out
                    | true =>
                      rw [hov, hf] at hbit
                      have HN2 := Lib.hid (show n + 1 = F + (j + 1) ∧ ∀ x, x < j + 1 → F + x < N ∧ hasB t (F + x) = true from by
                        refine ⟨by have := HN.out.1; omega, fun x hx => ?_⟩
                        by_cases e : x = j
                        · subst e
                          rw [← HN.out.1]
                          exact ⟨hnN, hf⟩
                        · exact HN.out.2 x (by omega))
                      have HI4 := Lib.hid (HI3.out.congr (k := outF t F (j + 1)) fun x _ => by rw [HN.out.1]; exact outF_step t F j x)
                      clear hov hf I2
                      go_wp2
                      go_roundg (C - (j + 1))
                      case measure => omega
                      case rel => exact ⟨n + 1, j + 1, by simp, by omega, by omega, ⟨HN2.out⟩, HI4.out, rfl⟩
                  · have c8 : (N : Int) ≤ (n : Int) := by omega
                    have HE := Lib.hid (HNO.out W2 I2.below (HST.out (not_in (by have := HN.out.1; omega))))
                    go_wp2
                    go_ret
                    exact HE.out
                · have c5 : ¬ (n : Int) < (F : Int) + (C : Int) := by have := HN.out.1; omega
                  have hFC : F + C ≤ N := by have := (HN.out.2 (C - 1) (by omega)).1; omega
                  have HIN := Lib.hid (show exIn N ((F : Int), (C : Int)) ∧ exUsed t ((F : Int), (C : Int)) from is_in (by omega) (fun k hk => by rw [show (F : Int) + (k : Int) = ((F + k : Nat) : Int) from by omega, hasI_nat]; exact (HN.out.2 k (by omega)).2))
                  have HG2 := Lib.hid (show giveE N L s = giveE N (L.drop (i + 1)) (setN false (F : Int) C t) from by rw [HG.out.1, HDr.out, giveE_step N HIN.out]; rfl)
                  have HB2 := Lib.hid (show Bits (setN false (F : Int) C t) N (hasB (setN false (F : Int) C t)) from Bits.of (setN_bits HG.out.2 false F C hFC).ok)
                  have I3 := I.congr (k := hasB (setN false (F : Int) C t)) fun x hx => by rw [show j = C from by omega]; exact outF_all HG.out.2 F C x hFC hx
                  clear I
                  go_wp2
                  refine wp_region_quiet_lit (by kernel_rfl) (by kernel_rfl) ?_
                  quiet_step (fail)
                  quiet_step (fail)
                  quiet_step (fail)
                  quiet_step (fail)
                  quiet_step (fail)
                  quiet_step (fail)
                  quiet_step (fail)
                  quiet_step (fail)
                  quiet_step (fail)
                  quiet_step (fail)
                  quiet_step (fail)
                  quiet_step (fail)
                  quiet_step (fail)
                  refine wpQuiet_nil ?_
                  intro _ hw'
                  obtain ⟨nq, hw''⟩ := hw'
                  subst hw''
                  go_wp2
                  have I4 := I3.keepB (pw_below_drewN (Below.refl _ _) nq)
                  go_roundg (L.length - (i + 1))
                  case measure => omega
                  case rel => exact ⟨i + 1, _, by simp, by omega, ⟨HG2.out, HB2.out⟩, I4, rfl⟩
    · have k1 : ¬ (i : Int) < (L.length : Int) := by omega
      have hE : giveE N L s = some t := by rw [HG.out.1, List.drop_of_length_le (by omega), giveE_nil]
      have hm := (HA.out.keepB I.below).m
      have hc0 : wr.cell? ⟨q, 0, none⟩ = some (.slice (some ⟨g, 0, none⟩) N cap) := by rw [block_cell hm]; rfl
      have hf0 : wr.frozen? ⟨q, 0, none⟩ = false := block_frozen hm 0
      have hgq : q ≠ gc := by have := I.hg.1; omega
      have HF : RGEnd w base q g N s (giveE N L s) (.returned (.bool true)) (wr.setCell ⟨q, 0, none⟩ (.slice (some ⟨gc, 0, none⟩) N cc)) := by
        rw [hE]
        refine ⟨rfl, ⟨gc, cc, ?_, .inr I.hg.1⟩, (OnlyAt.of I.below).set 0 _⟩
        refine ⟨by rw [block_set hm 0]; rfl, ?_, HA.out.hq⟩
        have hrow := ownsRow_block (w' := wr.setCell ⟨q, 0, none⟩ (.slice (some ⟨gc, 0, none⟩) N cc)) I.row (fun k hk => by
          have : gc = k := by simpa [Value.ownBlock] using hk
          subst this
          exact Below.heap_setCell _ _ _ _ (fun e => hgq e.symm))
        refine ⟨hrow.1, ?_⟩
        rcases hrow.2 with h2 | ⟨g', cap', cur, e, h3, h4⟩
        · exact .inl h2
        · exact .inr ⟨g', cap', cur, e, Nat.le_trans hbw h3, h4⟩
      rw [← HAC.out] at HF
      have HF2 := Lib.hid HF
      clear HF hE hm I
      go_wp2
      go_ret
      exact HF2.out
end Go.Proofs.Ytidnkckfkgaooaa.Al
/- What the document's Take finds: plain. -/
namespace Go.Proofs.Ytidnkckfkgaooaa.Al
open Go.RowKit Go.Shelf Go.Proofs Go.Proofs.Ytidnkckfkgaooaa.Ext Go.Proofs.Ytidnkckfkgaooaa.Pure Go.Proofs.YtidnkckfkgaooaaW.PrintWords Go.Proofs.YtidnkckfkgaooaaW.PrintLast Go.Proofs.YtidnkckfkgaooaaW.PrintMore

theorem runN_spec (f : Nat → Bool) (N i : Nat) (hi : i ≤ N) : i + runN f N i ≤ N ∧ (∀ j, j < runN f N i → f (i + j) = false) ∧ (i + runN f N i = N ∨ f (i + runN f N i) = true) := by
  obtain ⟨h1, h2, h3⟩ := runG_spec f (N - i) i
  unfold runN
  refine ⟨by omega, h2, ?_⟩
  rcases h3 with h3 | h3
  · exact .inl (by omega)
  · exact .inr h3
/-- So many stand together from i on, and not before. -/
theorem find_there {s : ByteArray} {N n i : Nat} (h : Bits s N (hasB s)) (hn : 1 ≤ n) (hi : i < N) (hr : n ≤ runN (hasB s) N i) (hp : ∀ p, p < i → runN (hasB s) N p < n) : findE s N n = [((i : Int), (n : Int))] := by
  obtain ⟨h1, h2, _⟩ := runN_spec (hasB s) N i (by omega)
  refine findE_first hn (by omega) h.size8 (fun j hj => h2 j (by omega)) (fun p hpi => ?_)
  obtain ⟨g1, _, g3⟩ := runN_spec (hasB s) N p (by omega)
  have := hp p hpi
  rcases g3 with g3 | g3
  · omega
  · exact ⟨_, this, g3⟩
theorem find_not {s : ByteArray} {N n : Nat} (hn : 1 ≤ n) (hp : ∀ p, p < N → runN (hasB s) N p < n) : findE s N n = if 8 < (packE ((freeL s N).take n)).length then [] else packE ((freeL s N).take n) := by
  refine findE_rest hn (fun a ha => ?_)
  obtain ⟨g1, _, g3⟩ := runN_spec (hasB s) N a (by omega)
  have := hp a (by omega)
  rcases g3 with g3 | g3
  · omega
  · exact ⟨_, this, g3⟩
theorem freeFrom_add (s : ByteArray) : ∀ (d e i : Nat), freeFrom s (d + e) i = freeFrom s d i ++ freeFrom s e (i + d)
  | 0, e, i => by
    rw [Nat.zero_add, Nat.add_zero]
    rfl
  | d + 1, e, i => by
    rw [show d + 1 + e = (d + e) + 1 from by omega, freeFrom_split, freeFrom_split, freeFrom_add s d e (i + 1), List.append_assoc, show i + 1 + d = i + (d + 1) from by omega]
/-- The blocks below one that are not in use. -/
def below (s : ByteArray) (i : Nat) : List Nat := freeFrom s i 0
theorem below_lt (s : ByteArray) (i : Nat) : ∀ x ∈ below s i, x < i := fun x h => by
  have := freeFrom_lt s i 0 x h
  omega
theorem below_used {s : ByteArray} {i : Nat} (h : hasB s i = true) : below s (i + 1) = below s i := by
  unfold below
  rw [freeFrom_add s i 1 0, freeFrom_split, if_neg (by rw [Nat.zero_add, h]; decide), List.nil_append]
  exact List.append_nil _
theorem free_all (s : ByteArray) : ∀ (k i : Nat), (∀ j, j < k → hasB s (i + j) = false) → freeFrom s k i = (List.range' i k)
  | 0, _, _ => rfl
  | k + 1, i, h => by
    rw [freeFrom_split, if_pos (show hasB s i = false from h 0 (by omega)), free_all s k (i + 1) (fun j hj => by rw [show i + 1 + j = i + (j + 1) from by omega]; exact h (j + 1) (by omega))]
    rfl
theorem below_run {s : ByteArray} {i k : Nat} (h : ∀ j, j < k → hasB s (i + j) = false) : below s (i + k) = below s i ++ List.range' i k := by
  unfold below
  rw [freeFrom_add s i k 0, Nat.zero_add, free_all s k i h]
theorem below_prefix {s : ByteArray} {i N : Nat} (h : i ≤ N) : below s i <+: freeL s N := by
  obtain ⟨e, rfl⟩ : ∃ e, N = i + e := ⟨N - i, by omega⟩
  exact ⟨freeFrom s e (0 + i), (freeFrom_add s i e 0).symm⟩
/-- So many rising blocks behind extents that end ahead of them. -/
theorem pack_more (L : List (Int × Int)) (i : Nat) : ∀ (k : Nat) (c : Int), (List.range' (i + c.toNat) k).foldl stepE (L ++ [((i : Int), c)]) = (if 0 ≤ c then L ++ [((i : Int), c + (k : Int))] else (List.range' (i + c.toNat) k).foldl stepE (L ++ [((i : Int), c)])) := by
  intro k
  induction k with
  | zero =>
    intro c
    split
    · show L ++ [((i : Int), c)] = _
      simp
    · rfl
  | succ k ih =>
    intro c
    split
    · rename_i hc
      rw [List.range'_succ, List.foldl_cons, stepE_more L (i : Int) c (i + c.toNat) (by omega)]
      have := ih (c + 1)
      rw [if_pos (by omega), show (c + 1).toNat = c.toNat + 1 from by omega, ← Nat.add_assoc] at this
      rw [this, show c + 1 + (k : Int) = c + ((k + 1 : Nat) : Int) from by omega]
    · rfl
theorem pack_run {B : List Nat} {i k : Nat} (hk : 1 ≤ k) (he : endE (packE B) (-1) < (i : Int)) : packE (B ++ List.range' i k) = packE B ++ [((i : Int), (k : Int))] := by
  obtain ⟨k, rfl⟩ : ∃ j, k = j + 1 := ⟨k - 1, by omega⟩
  unfold packE at *
  rw [List.foldl_append, List.range'_succ, List.foldl_cons]
  have e1 : stepE (B.foldl stepE []) i = B.foldl stepE [] ++ [((i : Int), 1)] := by
    refine stepE_new fun x hx => ?_
    obtain ⟨M, hM⟩ := List.getLast?_eq_some_iff.1 hx
    rw [hM, end_snoc] at he
    omega
  rw [e1]
  have := pack_more (B.foldl stepE []) i k 1
  rw [if_pos (by omega), show (1 : Int).toNat = 1 from rfl] at this
  rw [this, show (1 : Int) + (k : Int) = ((k + 1 : Nat) : Int) from by omega]
/-- In the second search. -/
structure Sch (s : ByteArray) (N n i left : Nat) (l : List (Int × Int)) : Prop where
  hi : i ≤ N
  hl : l = packE (below s i)
  rest : left + (below s i).length = n
  edge : 1 ≤ left → i < N → hasB s i = false → endE (packE (below s i)) (-1) < (i : Int)
theorem below_pair (s : ByteArray) (i : Nat) : (below s i).Pairwise (· < ·) := freeFrom_pair s i 0
theorem Sch.start (s : ByteArray) (N n : Nat) : Sch s N n 0 n [] := ⟨Nat.zero_le _, rfl, rfl, fun _ _ _ => by show (-1 : Int) < ((0 : Nat) : Int); decide⟩
theorem Sch.skip {s : ByteArray} {N n i left : Nat} {l : List (Int × Int)} (h : Sch s N n i left l) (hi : i < N) (hr : runN (hasB s) N i = 0) : Sch s N n (i + 1) left l := by
  obtain ⟨_, _, g3⟩ := runN_spec (hasB s) N i (by omega)
  rw [hr, Nat.add_zero] at g3
  have hb : hasB s i = true := by
    rcases g3 with g3 | g3
    · omega
    · exact g3
  refine ⟨by omega, by rw [below_used hb]; exact h.hl, by rw [below_used hb]; exact h.rest, fun _ _ _ => ?_⟩
  rw [below_used hb]
  have := (pack_rise _ (below_pair s i)).2.1 i (below_lt s i)
  omega
theorem Sch.run {s : ByteArray} {N n i left k : Nat} {l : List (Int × Int)} (h : Sch s N n i left l) (hi : i < N) (hl : 1 ≤ left) (hk : k = min (runN (hasB s) N i) left) (hk1 : 1 ≤ k) : Sch s N n (i + k) (left - k) (l ++ [((i : Int), (k : Int))]) := by
  obtain ⟨g1, g2, g3⟩ := runN_spec (hasB s) N i (by omega)
  have hb : hasB s i = false := g2 0 (by omega)
  have hbr := below_run (s := s) (i := i) (k := k) (fun j hj => g2 j (by omega))
  refine ⟨by omega, ?_, ?_, fun hl2 hi2 hb2 => ?_⟩
  · rw [hbr, pack_run hk1 (h.edge hl hi hb), h.hl]
  · rw [hbr, List.length_append, List.length_range']
    have := h.rest
    omega
  · have e : k = runN (hasB s) N i := by omega
    rcases g3 with g3 | g3
    · omega
    · rw [← e, hb2] at g3
      cases g3
/-- At its end. -/
theorem Sch.done {s : ByteArray} {N n i left : Nat} {l : List (Int × Int)} (h : Sch s N n i left l) (hd : i = N ∨ left = 0) : l = packE ((freeL s N).take n) := by
  rw [h.hl]
  congr 1
  have hlen := h.rest
  rcases hd with rfl | rfl
  · exact (List.take_of_length_le (by show (below s i).length ≤ n; omega)).symm
  · obtain ⟨t, ht⟩ := below_prefix (s := s) h.hi
    rw [← ht, List.take_append_of_le_length (by omega), List.take_of_length_le (by omega)]
end Go.Proofs.Ytidnkckfkgaooaa.Al
