/- What is done with a disk: acts read; a disk that is none does nothing. -/
import Derived.Test.YteblobookpldfaaSeR
import Derived.ChangeArms
import Derived.Lib.LaidTab
namespace Go.Proofs.Yteblobookpldfaa.Se
open Go.RowKit Go.Shelf Go.Proofs

/-- An act. -/
structure ActV where
  kind : Nat
  c : UInt8
  n : Int
  data : ByteArray
  v : Value
  ks : List Bool
def I64 (z : Int) : Prop := -9223372036854775808 ≤ z ∧ z ≤ 9223372036854775807
def fld (a : Addr) (j : Nat) : Addr := ⟨a.block, a.off + j, none⟩
def ActOk (w : World) (x : ActV) : Prop := KRow w x.v x.ks ∧ x.kind < 256 ∧ I64 x.n
abbrev ActV.cells (x : ActV) : Array Value := #[.int .u8 (x.kind : Int), .int .u8 (x.c.toNat : Int), .int .i64 x.n, .string x.data, x.v]
def ActAt (w : World) (a : Addr) (x : ActV) : Prop := w.cell? a = some (.int .u8 (x.kind : Int)) ∧ w.cell? (fld a 1) = some (.int .u8 (x.c.toNat : Int)) ∧ w.cell? (fld a 2) = some (.int .i64 x.n) ∧ w.cell? (fld a 3) = some (.string x.data) ∧ w.cell? (fld a 4) = some x.v ∧ ActOk w x
def ActRow (w : World) (v : Value) (A : List ActV) : Prop := (v = .slice none 0 0 ∧ A = []) ∨ ∃ a cap, v = .slice (some a) A.length cap ∧ ∀ i x, A[i]? = some x → ActAt w (a.add (i * 5)) x
theorem ActRow.form {w : World} {v : Value} {A : List ActV} (h : ActRow w v A) : ∃ o c, v = .slice o A.length c := by
  rcases h with ⟨rfl, rfl⟩ | ⟨a, c, rfl, _⟩
  · exact ⟨none, 0, rfl⟩
  · exact ⟨some a, c, rfl⟩
theorem ActRow.at' {w : World} {o : Option Addr} {n c : Nat} {A : List ActV} (h : ActRow w (.slice o n c) A) (i : Nat) (x : ActV) (hi : A[i]? = some x) : ∃ a, o = some a ∧ ActAt w (a.add (i * 5)) x := by
  rcases h with ⟨h1, rfl⟩ | ⟨a, cap, h1, h2⟩
  · cases hi
  · obtain ⟨rfl, rfl, rfl⟩ := Value.slice.inj h1
    exact ⟨a, rfl, h2 i x hi⟩
theorem lt_of_cell {w : World} {a : Addr} {v : Value} (h : w.cell? a = some v) : a.block < w.heap.size := by
  unfold World.cell? at h
  rcases Nat.lt_or_ge a.block w.heap.size with h1 | h1
  · exact h1
  · rw [Array.getElem?_eq_none h1] at h
    simp at h
theorem ActOk.keepB {w w' : World} {x : ActV} (h : ActOk w x) (hB : Below w.heap.size w w') : ActOk w' x := ⟨h.1.keepB hB, h.2⟩
theorem ActAt.keepB {w w' : World} {a : Addr} {x : ActV} (h : ActAt w a x) (hB : Below w.heap.size w w') : ActAt w' a x := by
  obtain ⟨h0, h1, h2, h3, h4, h5⟩ := h
  have key : ∀ b u, w.cell? b = some u → w'.cell? b = some u := fun b u hu => (hB.cell (lt_of_cell hu)).trans hu
  exact ⟨key _ _ h0, key _ _ h1, key _ _ h2, key _ _ h3, key _ _ h4, h5.keepB hB⟩
theorem ActRow.keepB {w w' : World} {v : Value} {A : List ActV} (h : ActRow w v A) (hB : Below w.heap.size w w') : ActRow w' v A := by
  rcases h with h | ⟨a, cap, h1, h2⟩
  · exact .inl h
  · exact .inr ⟨a, cap, h1, fun i x hi => (h2 i x hi).keepB hB⟩
def great1 (x : ActV) : Bool := decide (600 < x.data.size) || decide (60 < x.ks.length)
def greatA (A : List ActV) (most : Int) : Bool := A.any great1 || decide (most < (A.length : Int))
set_option maxHeartbeats 2000000 in
theorem great_calls (w : World) (v : Value) (A : List ActV) (most : Int) (h : ActRow w v A) (hA : A.length ≤ 9223372036854775807) : Calls Try.prog 7 #[v, .int .i64 most] w fun e w' => e = .returned (.bool (greatA A most)) ∧ w = w' := by
  obtain ⟨o, c, rfl⟩ := h.form
  have HL := Lib.hid hA
  clear hA
  go_enter Try.func7, Try.ntmps7
  go_wp2
  go_loopg [5] A.length (fun k v5 wr => ∃ i : Nat, v5 = .int .i64 (i : Int) ∧ i ≤ A.length ∧ (∀ j x, j < i → A[j]? = some x → great1 x = false) ∧ wr = w ∧ k = A.length - i)
  case atStart => exact ⟨0, rfl, by omega, fun j x hj => by omega, rfl, rfl⟩
  case round =>
    obtain ⟨i, rfl, hi, hall, rfl, rfl⟩ := hrel
    have HA := Lib.hid hall
    clear hall
    by_cases hil : i < A.length
    · obtain ⟨x, hx⟩ : ∃ x, A[i]? = some x := ⟨_, List.getElem?_eq_getElem hil⟩
      obtain ⟨a, rfl, hact⟩ := h.at' i x hx
      obtain ⟨_, _, _, h3, h4, h5, _⟩ := hact
      obtain ⟨o2, c2, hxv⟩ := h5.form
      rw [hxv] at h4
      unfold fld at h3 h4
      have c1 : (i : Int) < (A.length : Int) := by omega
      have c3 : ((i : Int)).toNat = i := by omega
      have c4 : (0 : Int) ≤ (i : Int) := by omega
      by_cases hg : 600 < x.data.size
      · have d1 : (600 : Int) < (x.data.size : Int) := by omega
        have HE := Lib.hid (show greatA A most = true by
          unfold greatA
          rw [Bool.or_eq_true]
          left
          rw [List.any_eq_true]
          exact ⟨x, List.mem_of_getElem? hx, by unfold great1; rw [decide_eq_true hg]; rfl⟩)
        clear hx hxv h5
        go_wp2
        go_ret
        exact ⟨by rw [HE.out]; rfl, rfl⟩
      · have d1 : ¬ (600 : Int) < (x.data.size : Int) := by omega
        by_cases hk : 60 < x.ks.length
        · have d2 : (60 : Int) < (x.ks.length : Int) := by omega
          have HE := Lib.hid (show greatA A most = true by
            unfold greatA
            rw [Bool.or_eq_true]
            left
            rw [List.any_eq_true]
            exact ⟨x, List.mem_of_getElem? hx, by unfold great1; rw [decide_eq_true hk, Bool.or_true]⟩)
          clear hx hxv h5
          go_wp2
          go_ret
          exact ⟨by rw [HE.out]; rfl, rfl⟩
        · have d2 : ¬ (60 : Int) < (x.ks.length : Int) := by omega
          have HN := Lib.hid (show ∀ j y, j < i + 1 → A[j]? = some y → great1 y = false from fun j y hj hy => by
            by_cases e : j = i
            · subst e
              rw [hx] at hy
              obtain rfl := Option.some.inj hy
              unfold great1
              rw [decide_eq_false hg, decide_eq_false hk]
              rfl
            · exact HA.out j y (by omega) hy)
          clear hx hxv h5
          have hl := HL.out
          go_wp2
          go_roundg (A.length - (i + 1))
          case measure => omega
          case rel => exact ⟨i + 1, by simp, by omega, HN.out, rfl, rfl⟩
    · have c1 : ¬ (i : Int) < (A.length : Int) := by omega
      have hE : greatA A most = decide (most < (A.length : Int)) := by
        unfold greatA
        rw [show A.any great1 = false from ?_]
        · rfl
        · rw [List.any_eq_false]
          intro x hx
          obtain ⟨j, hj⟩ := List.getElem?_of_mem hx
          have := HA.out j x (by have := (List.getElem?_eq_some_iff.1 hj).1; omega) hj
          simp [this]
      have HE := Lib.hid hE
      clear hE
      go_wp2
      go_ret
      exact ⟨by rw [HE.out]; rfl, rfl⟩
/-! ### A disk that is none -/
theorem size34 : (Try.prog.info? 34).map (·.size) = some 5 := by kernel_rfl
theorem und34 : (match Try.prog.underlying 34 with | some (.struct _) => true | _ => false) = true := by kernel_rfl
theorem und34s : ∃ fs, Try.prog.underlying 34 = some (.struct fs) := by
  have h := und34
  split at h
  · exact ⟨_, by assumption⟩
  · cases h
theorem act_row1 {W : World} {x : ActV} {g : Nat} (h : W.heap[g]? = some (.cells x.cells 34 (0, 0))) (hx : ActOk W x) : ActRow W (.slice (some ⟨g, 0, none⟩) 1 1) [x] := by
  refine .inr ⟨_, _, rfl, fun i y hi => ?_⟩
  match i with
  | 0 =>
    simp at hi
    subst hi
    rw [show (⟨g, 0, none⟩ : Addr).add (0 * 5) = ⟨g, 0, none⟩ from add_zero _ _]
    refine ⟨?_, ?_, ?_, ?_, ?_, hx⟩
    · rw [block_cell h]; rfl
    · unfold fld; rw [block_cell h]; rfl
    · unfold fld; rw [block_cell h]; rfl
    · unfold fld; rw [block_cell h]; rfl
    · unfold fld; rw [block_cell h]; rfl
  | i + 1 => simp at hi
theorem noD_up {W : World} {v : Value} (h : NoD W v) : Calls Try.prog 21 #[v] W fun e w' => e = .returned (.bool false) ∧ W = w' := up_calls h.check
theorem noD_new (W : World) : NoD (W.alloc (.cells #[.slice none 0 0, .slice none 0 0, .bool false, .int .i64 0, .bool false, .int .i64 0, .slice none 0 0] 47)) (.pointer (some ⟨W.heap.size, 0, none⟩)) :=
  .inr ⟨fun b => b = W.heap.size, W.heap.size, rfl, rfl, fun k hk => (by cases hk), fun k hk => (by cases hk), fun k hk => (by cases hk), alloc_new _ _ _ rfl, World.ownsRow_nil _ _ _ _, World.ownsRow_nil _ _ _ _, World.ownsRow_nil _ _ _ _⟩
set_option maxRecDepth 100000 in
set_option maxHeartbeats 4000000 in
theorem sectorsNone_calls (w : World) (x : ActV) (hx : ActOk w x) : Calls Try.prog 4 #[.agg x.cells] w fun e w' => e = .returned (.bool true) ∧ Below w.heap.size w w' := by
  obtain ⟨fs, hfs⟩ := und34s
  obtain ⟨o, c, hv⟩ := hx.1.form
  have hB0 := Lib.hid (show ∀ o, Below w.heap.size w (w.alloc o) from fun o => (Below.refl _ _).alloc (Nat.le_refl _) _)
  have hB1 := Lib.hid (show ∀ o o2, Below w.heap.size w ((w.alloc o).alloc o2) from fun o o2 => ((Below.refl _ _).alloc (Nat.le_refl _) _).alloc (by simp) _)
  have HG := Lib.hid (show Calls Try.prog 7 #[.slice (some ⟨w.heap.size + 1, 0, none⟩) 1 1, .int .i64 1] ((w.alloc (.cells x.cells 34)).alloc (.cells x.cells 34)) fun e w' => e = .returned (.bool (greatA [x] 1)) ∧ (w.alloc (.cells x.cells 34)).alloc (.cells x.cells 34) = w' from
    great_calls _ _ [x] 1 (act_row1 (alloc_new _ _ _ (by simp)) (hx.keepB (hB1.out _ _))) (by simp))
  have hg : greatA [x] 1 = great1 x := by unfold greatA; simp
  rw [hg] at HG
  clear hg
  generalize great1 x = gr at HG
  have HS := Lib.hid spun_calls
  unfold ActV.cells at HG ⊢
  generalize x.kind = kk at *
  generalize x.c = cc at *
  generalize x.n = nn at *
  generalize x.data = dd at *
  generalize x.ks.length = kl at *
  rw [hv] at HG ⊢
  clear hv hx
  go_enter Try.func4, Try.ntmps4
  cases gr with
  | true =>
    go_wp2_with (first
      | (refine wpList_load_row rfl 34 (.tmp 1) rfl w.heap.size rfl 34 #[.int .u8 (kk : Int), .int .u8 (cc.toNat : Int), .int .i64 nn, .string dd, .slice o kl c] (0, 0) (.struct fs) (alloc_new _ _ _ rfl) hfs rfl size34 ?_)
      | (go_at_call 7; refine HG.out.mono ?_; rintro e w' ⟨rfl, rfl⟩)
      | (go_at_call 8; refine (HS.out _).mono ?_; rintro e w' ⟨rfl, hT⟩))
    go_ret
    exact ⟨rfl, (hB1.out _ _).trans (hT.mono (by simp; omega))⟩
  | false =>
    go_wp2_with (first
      | (refine wpList_load_row rfl 34 (.tmp 1) rfl w.heap.size rfl 34 #[.int .u8 (kk : Int), .int .u8 (cc.toNat : Int), .int .i64 nn, .string dd, .slice o kl c] (0, 0) (.struct fs) (alloc_new _ _ _ rfl) hfs rfl size34 ?_)
      | (go_at_call 7; refine HG.out.mono ?_; rintro e w' ⟨rfl, rfl⟩))
    have hb0 : ((w.alloc (.cells #[.int .u8 (kk : Int), .int .u8 (cc.toNat : Int), .int .i64 nn, .string dd, .slice o kl c] 34)).alloc (.cells #[.int .u8 (kk : Int), .int .u8 (cc.toNat : Int), .int .i64 nn, .string dd, .slice o kl c] 34)).heap[w.heap.size]? = some (.cells #[.int .u8 (kk : Int), .int .u8 (cc.toNat : Int), .int .i64 nn, .string dd, .slice o kl c] 34 (0, 0)) := by
      rw [Below.heap_alloc _ _ _ (by simp)]
      exact alloc_new _ _ _ rfl
    have hB2 := hB1.out (.cells #[.int .u8 (kk : Int), .int .u8 (cc.toNat : Int), .int .i64 nn, .string dd, .slice o kl c] 34) (.cells #[.int .u8 (kk : Int), .int .u8 (cc.toNat : Int), .int .i64 nn, .string dd, .slice o kl c] 34)
    generalize (w.alloc (.cells #[.int .u8 (kk : Int), .int .u8 (cc.toNat : Int), .int .i64 nn, .string dd, .slice o kl c] 34)).alloc (.cells #[.int .u8 (kk : Int), .int .u8 (cc.toNat : Int), .int .i64 nn, .string dd, .slice o kl c] 34) = w1 at *
    clear HG hB0 hB1
    go_loopg [3, 4, 5, 6] 2 (fun k v3 v4 _ _ wr => ∃ i : Nat, v4 = .int .i64 (i : Int) ∧ i ≤ 2 ∧ NoD wr v3 ∧ wr.heap[w.heap.size]? = some (.cells #[.int .u8 (kk : Int), .int .u8 (cc.toNat : Int), .int .i64 nn, .string dd, .slice o kl c] 34 (0, 0)) ∧ Below w.heap.size w wr ∧ k = 2 - i)
    case atStart => exact ⟨0, rfl, by omega, .inl rfl, hb0, hB2, rfl⟩
    case round =>
      clear hb0 hB2
      obtain ⟨i, rfl, hi, hm, hb, hB, rfl⟩ := hrel
      by_cases hil : i < 2
      · have c1 : (i : Int) < 2 := by omega
        have hc : ∀ W, Below wr.heap.size wr W → W.cell? ⟨w.heap.size, 2, none⟩ = some (.int .i64 nn) ∧ W.cell? ⟨w.heap.size, 3, none⟩ = some (.string dd) ∧ W.cell? ⟨w.heap.size, 4, none⟩ = some (.slice o kl c) := fun W hW => by
          have hb2 := (hW.block _ (lt_of_block hb)).trans hb
          exact ⟨by rw [block_cell hb2]; rfl, by rw [block_cell hb2]; rfl, by rw [block_cell hb2]; rfl⟩
        have HM := Lib.hid (fun W (hW : Below wr.heap.size wr W) => hm.keepB hW)
        have HCC := Lib.hid hc
        obtain ⟨f2, f3, f4⟩ := hc wr (Below.refl _ _)
        clear hm hc
        go_wp2_with (first
          | (go_at_call 13; refine (noRead (HM.out _ (Below.refl _ _)) nn).mono ?_; rintro e w2 ⟨rfl, b2⟩; obtain ⟨f2', f3', f4'⟩ := HCC.out _ b2)
          | (go_at_call 14; refine (noWrite (HM.out _ b2) nn dd).mono ?_; rintro e w' ⟨rfl, rfl⟩)
          | (go_at_call 15; refine (noFlush (HM.out _ b2)).mono ?_; rintro e w' ⟨rfl, rfl⟩)
          | (go_at_call 16; refine (noCrash (HM.out _ b2) o kl c).mono ?_; rintro e w3 ⟨rfl, b3⟩; replace b3 := b2.trans (b3.mono b2.size); obtain ⟨f2'', f3'', f4''⟩ := HCC.out _ b3)
          | (go_at_call 17; refine (noStart (HM.out _ b3)).mono ?_; rintro e w' ⟨rfl, rfl⟩)
          | (go_at_call 18; refine (noFail (HM.out _ b3) nn _).mono ?_; rintro e w' ⟨rfl, rfl⟩)
          | (go_at_call 19; refine (HM.out _ b3).size.mono ?_; rintro e w' ⟨rfl, rfl⟩)
          | (go_at_call 20; refine (HM.out _ b3).loose.mono ?_; rintro e w' ⟨rfl, rfl⟩)
          | (go_at_call 21; refine (noD_up (HM.out _ b3)).mono ?_; rintro e w' ⟨rfl, rfl⟩)
          | (go_at_call 22; refine (HM.out _ b3).starts.mono ?_; rintro e w' ⟨rfl, rfl⟩))
        have hB3 := b3.alloc b3.size (.cells #[.slice none 0 0, .slice none 0 0, .bool false, .int .i64 0, .bool false, .int .i64 0, .slice none 0 0] 47)
        go_roundg (2 - (i + 1))
        case measure => omega
        case rel => exact ⟨i + 1, by simp, by omega, noD_new _, (hB3.block _ (lt_of_block hb)).trans hb, hB.trans (hB3.mono hB.size), rfl⟩
      · have c1 : ¬ (i : Int) < 2 := by omega
        go_wp2_with (go_at_call 8; refine (HS.out _).mono ?_; rintro e w' ⟨rfl, hT⟩)
        go_ret
        exact ⟨rfl, hB.trans (hT.mono hB.size)⟩
theorem sectorsNone_walk (w : World) (v : Value) (x : ActV) (h : v = .agg x.cells ∧ ActOk w x) : Calls Try.prog 4 #[v] w fun e w' => e = .returned (.bool true) ∧ Below w.heap.size w w' := by
  obtain ⟨rfl, hx⟩ := h
  exact sectorsNone_calls w x hx
end Go.Proofs.Yteblobookpldfaa.Se
