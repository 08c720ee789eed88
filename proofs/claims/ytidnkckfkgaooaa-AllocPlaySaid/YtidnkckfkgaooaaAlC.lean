/- Al12, Al13, put together. -/
import Derived.Test.YtidnkckfkgaooaaAl11
/- Maps of blocks: Take. -/
namespace Go.Proofs.Ytidnkckfkgaooaa.Al
open Go.RowKit Go.Shelf Go.Proofs Go.Proofs.Ytidnkckfkgaooaa.Ext Go.Proofs.Ytidnkckfkgaooaa.Pure Go.Proofs.YtidnkckfkgaooaaW.PrintWords Go.Proofs.YtidnkckfkgaooaaW.PrintLast Go.Proofs.YtidnkckfkgaooaaW.PrintMore

theorem freeFrom_lt (s : ByteArray) : ∀ (d i : Nat), ∀ x ∈ freeFrom s d i, i ≤ x ∧ x < i + d
  | 0, _, x, h => by cases h
  | d + 1, i, x, h => by
    rw [freeFrom_split] at h
    rcases List.mem_append.1 h with h | h
    · split at h
      · obtain rfl := List.mem_singleton.1 h
        omega
      · cases h
    · have := freeFrom_lt s d (i + 1) x h
      omega
theorem freeL_lt (s : ByteArray) (N : Nat) : ∀ x ∈ freeL s N, x < N := fun x h => by
  have := freeFrom_lt s N 0 x h
  omega
theorem findE_in (s : ByteArray) (N n : Nat) (hn : 1 ≤ n) : ∀ x ∈ findE s N n, inE N x := by
  intro x hx
  unfold findE at hx
  split at hx
  · rename_i h
    obtain rfl := List.mem_singleton.1 hx
    unfold inE
    simp only
    omega
  · split at hx
    · cases hx
    · exact packE_in N _ (fun i hi => freeL_lt s N i (List.mem_of_mem_take hi)) x hx
theorem findE_length (s : ByteArray) (N n : Nat) : (findE s N n).length ≤ 8 := by
  unfold findE
  split
  · simp
  · split
    · simp
    · omega
theorem find_calls (w : World) (p N n : Nat) (s : ByteArray) (hm : MapAt w p N s) (hN : N ≤ 4096) (hs : s.size ≤ 1000) (hn1 : 1 ≤ n) (hn : n ≤ N) :
    Calls Try.prog 46 #[.pointer (some ⟨p, 0, none⟩), .int .i64 (n : Int)] w (FEnd w (findE s N n)) := by
  have hF := runS_found s 0 (n : Int) (by omega)
  have hx : runS s 0 (n : Int) = -1 ∨ ∃ a : Nat, runS s 0 (n : Int) = (a : Int) ∧ a ≤ 8000 := by
    rcases hF with ⟨h, _⟩ | ⟨a, h, _, ⟨h2, _⟩, _⟩
    · exact .inl h
    · exact .inr ⟨a, h, by omega⟩
  rcases hx with h | ⟨a, h, h2⟩
  · have e : findE s N n = (if 8 < (packE ((freeL s N).take n)).length then [] else packE ((freeL s N).take n)) := by
      unfold findE
      rw [if_neg (by rw [h]; omega)]
    rw [e]
    exact find_free w p N n s hm hN hs hn1 hn _ h (.inl (by omega))
  · by_cases hr : a + n ≤ N
    · have e : findE s N n = [((a : Int), (n : Int))] := by
        unfold findE
        rw [if_pos (by rw [h]; omega), h]
      rw [e]
      exact find_run w p N n s hm hN hs hn1 hn a h hr
    · have e : findE s N n = (if 8 < (packE ((freeL s N).take n)).length then [] else packE ((freeL s N).take n)) := by
        unfold findE
        rw [if_neg (by rw [h]; omega)]
      rw [e]
      exact find_free w p N n s hm hN hs hn1 hn _ h (.inr (by omega))

/-! ### Take -/
/-- What is taken. -/
def takeL (s : ByteArray) (N : Nat) (n : Int) : List (Int × Int) := if n < 1 ∨ (N : Int) - (countN s : Int) < n then [] else findE s N n.toNat
def takeS (s : ByteArray) (N : Nat) (n : Int) : ByteArray := setE true (takeL s N n) s
theorem takeL_in (s : ByteArray) (N : Nat) (n : Int) : ∀ x ∈ takeL s N n, inE N x := by
  unfold takeL
  split
  · intro x hx
    cases hx
  · exact findE_in s N _ (by omega)
theorem takeL_length (s : ByteArray) (N : Nat) (n : Int) : (takeL s N n).length ≤ 8 := by
  unfold takeL
  split
  · simp
  · exact findE_length _ _ _
/-- What Take answers. -/
def TEnd (w : World) (p N : Nat) (s : ByteArray) (n : Int) (e : Ending) (w' : World) : Prop :=
  ∃ v, e = .returned (.tuple #[v, .bool (decide (0 < (takeL s N n).length))]) ∧ ExRow w' v (takeL s N n) ∧ (∀ a l c, v = .slice (some a) l c → 0 < l → w.heap.size ≤ a.block) ∧ MapAt w' p N (takeS s N n) ∧ OnlyAt p w w'
theorem take_no {s : ByteArray} {N : Nat} {n : Int} (h : n < 1 ∨ (N : Int) - (countN s : Int) < n) {w w' : World} {p : Nat} (hm : MapAt w' p N s) (hB : Below w.heap.size w w') : TEnd w p N s n (.returned (.tuple #[.slice none 0 0, .bool false])) w' := by
  have e : takeL s N n = [] := by unfold takeL; rw [if_pos h]
  have e2 : takeS s N n = s := by unfold takeS; rw [e]; rfl
  exact ⟨.slice none 0 0, by rw [e]; rfl, by rw [e]; exact .inl ⟨rfl, rfl⟩, (by intro a l c h2; cases h2), by rw [e2]; exact hm, .of hB⟩
attribute [local irreducible] countN findE setE
set_option maxHeartbeats 2000000 in
theorem take_calls (w : World) (p N : Nat) (s : ByteArray) (n : Int) (hm : MapAt w p N s) (hN : N ≤ 4096) (hs : s.size ≤ 1000) (hn : I64 n) :
    Calls Try.prog 26 #[.pointer (some ⟨p, 0, none⟩), .int .i64 n] w (TEnd w p N s n) := by
  have hpw := lt_of_block hm
  have hcn : countN s ≤ 8000 := Nat.le_trans (countN_le s) (by omega)
  by_cases h1 : n < 1
  · have HE := Lib.hid (take_no (s := s) (N := N) (n := n) (.inl h1) hm (Below.refl _ w))
    go_enter Try.func26, Try.ntmps26
    go_wp2
    go_ret2
    exact HE.out
  · have HSZ := Lib.hid (size_map w p N s hm)
    have HUS := Lib.hid (used_map w p N s hm (by omega))
    have HF := Lib.hid (fun (d : Nat) (m : Nat) (h1 : 1 ≤ m) (h2 : m ≤ N) => find_calls (w.drewN d) p N m s hm hN hs h1 h2)
    have HM := Lib.hid hm
    have e1 : IntKind.i64.wrap ((N : Int) - (countN s : Int)) = (N : Int) - (countN s : Int) := by rw [IntKind.wrap_i64]; omega
    by_cases h2 : (N : Int) - (countN s : Int) < n
    · have HE := Lib.hid (fun d => take_no (s := s) (N := N) (n := n) (.inr h2) (w := w) (w' := w.drewN d) hm (pw_below_drewN (Below.refl _ _) d))
      clear hm
      generalize countN s = cn at *
      go_enter Try.func26, Try.ntmps26
      go_wp2_with (first
        | (go_at_call 37; refine HSZ.out.mono ?_; rintro e w' ⟨rfl, rfl⟩)
        | (go_at_call 27; refine HUS.out.mono ?_; rintro e w' ⟨rfl, ⟨d, rfl⟩⟩))
      go_ret2
      exact HE.out d
    · obtain ⟨m, rfl⟩ : ∃ m : Nat, n = (m : Int) := ⟨n.toNat, by omega⟩
      have hl : takeL s N (m : Int) = findE s N m := by unfold takeL; rw [if_neg (by omega), Int.toNat_natCast]
      have hE : ∀ x ∈ findE s N m, inE N x := findE_in s N m (by omega)
      have hLl : (findE s N m).length ≤ 8 := findE_length _ _ _
      have HL := Lib.hid hl
      have HTS := Lib.hid (show takeS s N (m : Int) = setE true (findE s N m) s by unfold takeS; rw [hl])
      have m1 : 1 ≤ m := by omega
      have m2 : m ≤ N := by omega
      have HF2 := Lib.hid (fun d => HF.out d m m1 m2)
      clear hm hl HF
      generalize countN s = cn at *
      generalize findE s N m = L at *
      have HI := Lib.hid hE
      clear hE
      go_enter Try.func26, Try.ntmps26
      go_wp2_with (first
        | (go_at_call 37; refine HSZ.out.mono ?_; rintro e w' ⟨rfl, rfl⟩)
        | (go_at_call 27; refine HUS.out.mono ?_; rintro e w' ⟨rfl, ⟨d, rfl⟩⟩)
        | (go_at_call 46; refine (HF2.out d).mono ?_; rintro e w2 ⟨v, rfl, hr, hv, hB⟩; obtain ⟨o, c, rfl⟩ := hr.form; have hm2 : MapAt w2 p N s := (show MapAt (w.drewN d) p N s from HM.out).keepB hB)
        | (go_at_call 47; go_loud (refine (set_calls w2 p N s _ L true hm2 hr (fun a l c' e hl => by have h1 := hv a l c' e hl; have h2 : (w.drewN d).heap.size = w.heap.size := rfl; omega) (by omega) (fun x hx => by have := HI.out x hx; unfold inE at this; omega)).mono ?_; rintro e w3 ⟨rfl, hm3, hO⟩)))
      go_ret2
      have hw : w.heap.size ≤ w2.heap.size := hB.size
      refine ⟨.slice o L.length c, ?_, ?_, ?_, ?_, (OnlyAt.of (pw_below_drewN (Below.refl _ _) d)).trans ((OnlyAt.of hB).trans hO)⟩
      · rw [HL.out]
        rfl
      · rw [HL.out]
        exact hr.keep (fun a l c' e hl => by have h1 := hv a l c' e hl; have h2 : (w.drewN d).heap.size = w.heap.size := rfl; omega) hO
      · exact hv
      · rw [HTS.out]
        exact hm3
theorem count_empty : countN ⟨#[]⟩ = 0 := by kernel_rfl
set_option maxHeartbeats 2000000 in
theorem take_none (w : World) (v : Value) (n : Int) (hm : NoMap w v) :
    Calls Try.prog 26 #[v, .int .i64 n] w fun e w' => e = .returned (.tuple #[.slice none 0 0, .bool false]) ∧ Drawn0 w w' := by
  have HSZ : Hid (Calls Try.prog 37 #[v] w fun e w' => e = .returned (.int .i64 0) ∧ w = w') := Lib.hid (by
    rcases hm with rfl | ⟨p, rfl, h⟩
    · exact size_nil w
    · exact size_map w p 0 _ h)
  have HUS : Hid (Calls Try.prog 27 #[v] w fun e w' => e = .returned (.int .i64 0) ∧ Drawn0 w w') := Lib.hid (by
    rcases hm with rfl | ⟨p, rfl, h⟩
    · exact used_nil w
    · have := used_map w p 0 _ h (by show 0 ≤ _; omega)
      rw [count_empty] at this
      exact this)
  clear hm
  by_cases h1 : n < 1
  · go_enter Try.func26, Try.ntmps26
    go_wp2
    go_ret2
    exact ⟨rfl, ⟨0, rfl⟩⟩
  · have h2 : (0 : Int) < n := by omega
    go_enter Try.func26, Try.ntmps26
    go_wp2_with (first
      | (go_at_call 37; refine HSZ.out.mono ?_; rintro e w' ⟨rfl, rfl⟩)
      | (go_at_call 27; refine HUS.out.mono ?_; rintro e w' ⟨rfl, ⟨d, rfl⟩⟩))
    go_ret2
    exact ⟨rfl, ⟨d, rfl⟩⟩
end Go.Proofs.Ytidnkckfkgaooaa.Al
/- Maps of blocks: the chapter's blocks: what is taken and given, evaluated; the state of a map and of what was taken. -/
namespace Go.Proofs.Ytidnkckfkgaooaa.Al
open Go.RowKit Go.Shelf Go.Proofs Go.Proofs.Ytidnkckfkgaooaa.Ext Go.Proofs.Ytidnkckfkgaooaa.Pure Go.Proofs.YtidnkckfkgaooaaW.PrintWords Go.Proofs.YtidnkckfkgaooaaW.PrintLast Go.Proofs.YtidnkckfkgaooaaW.PrintMore

def B1 (b : UInt8) : ByteArray := ⟨#[b]⟩
theorem tk1 : takeL (B1 0) 8 3 = [(0, 3)] := by kernel_rfl
theorem ts1 : takeS (B1 0) 8 3 = B1 7 := by kernel_rfl
theorem tk2 : takeL (B1 7) 8 2 = [(3, 2)] := by kernel_rfl
theorem ts2 : takeS (B1 7) 8 2 = B1 31 := by kernel_rfl
theorem tk3 : takeL (B1 24) 8 5 = [(0, 3), (5, 2)] := by kernel_rfl
theorem ts3 : takeS (B1 24) 8 5 = B1 127 := by kernel_rfl
theorem tk4 : takeL (B1 127) 8 2 = [] := by kernel_rfl
theorem ts4 : takeS (B1 127) 8 2 = B1 127 := by kernel_rfl
theorem tk5 : takeL (B1 127) 8 1 = [(7, 1)] := by kernel_rfl
theorem ts5 : takeS (B1 127) 8 1 = B1 255 := by kernel_rfl
theorem gv0 : setN false 0 3 (B1 31) = B1 24 := by kernel_rfl
theorem gv30 : hasI (B1 31) (0 + ((0 : Nat) : Int)) = true := by kernel_rfl
theorem gv31 : hasI (B1 31) (0 + ((1 : Nat) : Int)) = true := by kernel_rfl
theorem gv32 : hasI (B1 31) (0 + ((2 : Nat) : Int)) = true := by kernel_rfl
theorem gv3 : ∀ k : Nat, (k : Int) < 3 → hasI (B1 31) (0 + (k : Int)) = true := by
  intro k hk
  have h : k = 0 ∨ k = 1 ∨ k = 2 := by omega
  clear hk
  rcases h with rfl | rfl | rfl
  · exact gv30
  · exact gv31
  · exact gv32
theorem gv1 : giveE 8 [(0, 3)] (B1 31) = some (B1 24) := by
  rw [giveE_step 8 (is_in (f := 0) (m := 3) (by omega) gv3), giveE_nil]
  exact congrArg some gv0
theorem gv2 : giveE 8 [(0, 3)] (B1 24) = none := giveE_stop 8 (not_used 0 (by omega) (by kernel_rfl)) []

/-- A map of the call's own, and rows of extents. -/
structure TkI (w : World) (p N : Nat) (s : ByteArray) (rows : List (Value × List (Int × Int))) (W : World) : Prop where
  below : Below w.heap.size w W
  hp : w.heap.size ≤ p
  m : MapAt W p N s
  rows : ∀ x ∈ rows, ExRow W x.1 x.2 ∧ ∀ a l c, x.1 = .slice (some a) l c → 0 < l → a.block ≠ p
theorem TkI.only {w W W' : World} {p N : Nat} {s t : ByteArray} {rows : List (Value × List (Int × Int))} (h : TkI w p N s rows W) (k : OnlyAt p W W') (hm : MapAt W' p N t) : TkI w p N t rows W' :=
  ⟨k.below h.below h.hp h.below.size, h.hp, hm, fun x hx => ⟨(h.rows x hx).1.keep (h.rows x hx).2 k, (h.rows x hx).2⟩⟩
theorem TkI.add {w W : World} {p N : Nat} {s : ByteArray} {rows : List (Value × List (Int × Int))} (h : TkI w p N s rows W) {v : Value} {L : List (Int × Int)} (hr : ExRow W v L) (hv : ∀ a l c, v = .slice (some a) l c → 0 < l → a.block ≠ p) : TkI w p N s (rows ++ [(v, L)]) W :=
  ⟨h.below, h.hp, h.m, fun x hx => by
    rcases List.mem_append.1 hx with hx | hx
    · exact h.rows x hx
    · obtain rfl := List.mem_singleton.1 hx
      exact ⟨hr, hv⟩⟩
theorem TkI.take {w W : World} {p N : Nat} {s t : ByteArray} {rows : List (Value × List (Int × Int))} (h : TkI w p N s rows W) (hN : N ≤ 4096) (hs : s.size ≤ 1000) (n : Int) (hn : I64 n) (L : List (Int × Int)) (hL : takeL s N n = L) (ht : takeS s N n = t) :
    Calls Try.prog 26 #[.pointer (some ⟨p, 0, none⟩), .int .i64 n] W fun e W' => ∃ o c, e = .returned (.tuple #[.slice o L.length c, .bool (decide (0 < L.length))]) ∧ TkI w p N t (rows ++ [(.slice o L.length c, L)]) W' := by
  refine (take_calls W p N s n h.m hN hs hn).mono ?_
  rintro e W' ⟨v, rfl, hr, hv, hm, hO⟩
  rw [hL] at hr ⊢
  rw [ht] at hm
  obtain ⟨o, c, rfl⟩ := hr.form
  exact ⟨o, c, rfl, (h.only hO hm).add hr (fun a l c' e hl => by have := hv a l c' e hl; have := lt_of_block h.m; omega)⟩
theorem TkI.take1 {w W : World} {p N : Nat} {s t : ByteArray} {rows : List (Value × List (Int × Int))} (h : TkI w p N s rows W) (hN : N ≤ 4096) (hs : s.size ≤ 1000) (n : Int) (hn : I64 n) (x : Int × Int) (L : List (Int × Int)) (hL : takeL s N n = x :: L) (ht : takeS s N n = t) :
    Calls Try.prog 26 #[.pointer (some ⟨p, 0, none⟩), .int .i64 n] W fun e W' => ∃ a c, e = .returned (.tuple #[.slice (some a) (L.length + 1) c, .bool true]) ∧ TkI w p N t (rows ++ [(.slice (some a) (L.length + 1) c, x :: L)]) W' := by
  refine (h.take hN hs n hn (x :: L) hL ht).mono ?_
  rintro e W' ⟨o, c, rfl, hT⟩
  obtain ⟨a, rfl, _⟩ := (hT.rows _ (List.mem_append_right _ (List.mem_singleton.2 rfl))).1.at' 0 x rfl
  exact ⟨a, c, rfl, hT⟩
theorem TkI.give {w W : World} {p N : Nat} {s t : ByteArray} {rows : List (Value × List (Int × Int))} (h : TkI w p N s rows W) (hN : N ≤ 4096) (h1 : 1 ≤ N) (hs : s.size ≤ 1000) (v : Value) (L : List (Int × Int)) (hx : (v, L) ∈ rows) (hL : L.length ≤ 1000000) (hb : ∀ x ∈ L, I64 x.1 ∧ I64 x.2) (b : Bool) (hg : (giveE N L s).isSome = b) (ht : (giveE N L s).getD s = t) :
    Calls Try.prog 28 #[.pointer (some ⟨p, 0, none⟩), v] W fun e W' => e = .returned (.bool b) ∧ TkI w p N t rows W' := by
  refine (give_calls W p N s v L h.m h1 hN hs (h.rows _ hx).1 hL hb).mono ?_
  rintro e W' ⟨rfl, hm, hO⟩
  rw [hg]
  rw [ht] at hm
  exact ⟨rfl, h.only hO hm⟩
end Go.Proofs.Ytidnkckfkgaooaa.Al
