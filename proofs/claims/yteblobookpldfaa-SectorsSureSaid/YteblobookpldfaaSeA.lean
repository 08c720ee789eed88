/- strings.Repeat by the shelf's contract, laid at this program (the table's text was written by the kit's tool); memory: small laws; a disk in memory. -/
import Derived.Test.YteblobookpldfaaProg
import Derived.Test.YteblobookpldfaaWMore
import Derived.Shelf.Strings.Repeat
import Derived.ArgAppend
import Derived.Below
import Derived.BigQuiet
import Derived.Deep.AppendLies
import Derived.Deep.CutBlock
import Derived.Deep.DeepCutAuto
import Derived.Deep.Draws
import Derived.Deep.LoopGhost
import Derived.Deep.OwnRows
import Derived.Deep.Quiet
import Derived.Deep.QuietTactic
import Derived.Deep.RegionHeld3
import Derived.KernelRfl
import Derived.Laws.BitsLemmas
import Derived.Laws.BytesArg
import Derived.Laws.IdiomCopy
import Derived.Laws.MakeOwn
import Derived.Laws.OwnMore
import Derived.Laws.Rows
import Derived.Laws.Slices
import Derived.Lib.AppendStr
import Derived.Lib.ConvBytes
import Derived.Lib.Hide
import Derived.Lib.QuietBelow
import Derived.Maps.AppendAt
import Derived.OrdersHeld
import Derived.Outline
import Derived.OwnWalk
import Derived.RangeFuncRecord
import Derived.RowKit
import Derived.RowKit3
import Derived.StillTail
import Derived.Tactics
import Derived.WalkKit
import Derived.WideLaws
import Derived.WalkSpells
import Derived.Deep.Fields
namespace Go.Proofs.Yteblobookpldfaa.Se
open Go.RowKit Go.Shelf Go.Proofs

/-! ### strings.Repeat, laid -/
def lays105_ren : Go.Shelf.Ren := ⟨fun | 105 => 25 | 212 => 39 | 99 => 40 | 165 => 41 | 166 => 42 | 170 => 43 | 169 => 44 | 263 => 47 | 264 => 48 | 206 => 49 | 240 => 50 | 241 => 51 | 276 => 52 | 277 => 53 | n => n, fun | 9 => 9 | 3 => 3 | 4 => 4 | 20 => 20 | 0 => 0 | 46 => 70 | 109 => 71 | 5 => 5 | 72 => 76 | 76 => 80 | 51 => 84 | 146 => 85 | 53 => 87 | 148 => 88 | 70 => 74 | 37 => 49 | 75 => 79 | 127 => 90 | 164 => 91 | 80 => 82 | n => n, fun | n => n⟩
theorem lays105 : Go.Proofs.Lays.n105 Try.prog lays105_ren := {
  mixed := by kernel_rfl
  f99 := Try.func40.trans (congrArg some (by kernel_rfl))
  f105 := Try.func25.trans (congrArg some (by kernel_rfl))
  f165 := Try.func41.trans (congrArg some (by kernel_rfl))
  f166 := Try.func42.trans (congrArg some (by kernel_rfl))
  f169 := Try.func44.trans (congrArg some (by kernel_rfl))
  f170 := Try.func43.trans (congrArg some (by kernel_rfl))
  f206 := Try.func49.trans (congrArg some (by kernel_rfl))
  f212 := Try.func39.trans (congrArg some (by kernel_rfl))
  f240 := Try.func50.trans (congrArg some (by kernel_rfl))
  f241 := Try.func51.trans (congrArg some (by kernel_rfl))
  f263 := Try.func47.trans (congrArg some (by kernel_rfl))
  f264 := Try.func48.trans (congrArg some (by kernel_rfl))
  f276 := Try.func52.trans (congrArg some (by kernel_rfl))
  f277 := Try.func53.trans (congrArg some (by kernel_rfl))
  t0 := Try.underlying0
  a0 := Try.isAgg0
  z0 := Try.sizeOf0
  v0 := Try.zeroValue0
  t3 := Try.underlying3
  a3 := Try.isAgg3
  z3 := Try.sizeOf3
  v3 := Try.zeroValue3
  t4 := Try.underlying4
  a4 := Try.isAgg4
  z4 := Try.sizeOf4
  v4 := Try.zeroValue4
  t5 := Try.underlying5
  a5 := Try.isAgg5
  z5 := Try.sizeOf5
  v5 := Try.zeroValue5
  t9 := Try.underlying9
  a9 := Try.isAgg9
  z9 := Try.sizeOf9
  v9 := Try.zeroValue9
  t20 := Try.underlying20
  a20 := Try.isAgg20
  z20 := Try.sizeOf20
  v20 := Try.zeroValue20
  t37 := Try.underlying49
  a37 := Try.isAgg49
  z37 := Try.sizeOf49
  v37 := Try.zeroValue49
  t46 := Try.underlying70
  a46 := Try.isAgg70
  z46 := Try.sizeOf70
  v46 := Try.zeroValue70
  t51 := Try.underlying84
  a51 := Try.isAgg84
  z51 := Try.sizeOf84
  v51 := Try.zeroValue84
  t53 := Try.underlying87
  a53 := Try.isAgg87
  z53 := Try.sizeOf87
  v53 := Try.zeroValue87
  t70 := Try.underlying74
  a70 := Try.isAgg74
  z70 := Try.sizeOf74
  v70 := Try.zeroValue74
  t72 := Try.underlying76
  a72 := Try.isAgg76
  z72 := Try.sizeOf76
  v72 := Try.zeroValue76
  t75 := Try.underlying79
  a75 := Try.isAgg79
  z75 := Try.sizeOf79
  v75 := Try.zeroValue79
  t76 := Try.underlying80
  a76 := Try.isAgg80
  z76 := Try.sizeOf80
  v76 := Try.zeroValue80
  t109 := Try.underlying71
  a109 := Try.isAgg71
  z109 := Try.sizeOf71
  v109 := Try.zeroValue71
  t127 := Try.underlying90
  a127 := Try.isAgg90
  z127 := Try.sizeOf90
  v127 := Try.zeroValue90
  t146 := Try.underlying85
  a146 := Try.isAgg85
  z146 := Try.sizeOf85
  v146 := Try.zeroValue85
  t148 := Try.underlying88
  a148 := Try.isAgg88
  z148 := Try.sizeOf88
  v148 := Try.zeroValue88
  t164 := Try.underlying91
  a164 := Try.isAgg91
  z164 := Try.sizeOf91
  v164 := Try.zeroValue91 }

theorem extra : Builder.Extra Try.prog lays105_ren := {
  sizeBuilder := by kernel_rfl
  liesBuilder := by kernel_rfl
  t5 := lays105.t5
  a5 := lays105.a5
  z5 := lays105.z5
  v5 := lays105.v5
  infoByte := by kernel_rfl
  cellsByte := by kernel_rfl
  sizeByte := by kernel_rfl
  neB5 := by decide }
/-- A sector of one byte, over and over. -/
def secS (c : UInt8) : ByteArray := ⟨(List.replicate 512 c).toArray⟩
theorem secS_size (c : UInt8) : (secS c).size = 512 := by
  unfold secS
  show (List.replicate 512 c).toArray.size = 512
  rw [List.size_toArray, List.length_replicate]
theorem repeat_zero (w : World) : Calls Try.prog 25 #[.string ⟨#[0]⟩, .int .i64 512] w fun e w' => e = .returned (.string (secS 0)) ∧ Below w.heap.size w w' := by
  have h := Any.strings_Repeat lays105 extra ⟨#[0]⟩ 512 w (by decide) (by show 1 * 512 ≤ _; decide)
  rw [show lays105_ren.f 105 = 25 from by kernel_rfl] at h
  refine h.mono fun e w' ⟨he, hw⟩ => ⟨?_, hw⟩
  rw [he]
  have e : Lib.repeatL (ByteArray.mk #[0]).data.toList 512 = List.replicate 512 (0 : UInt8) := by
    have := Lib.repeatL_replicate 0 1 512
    rw [Nat.mul_one] at this
    exact this
  rw [e]
  rfl

/-! ### Memory: small laws -/
theorem block_cell {w : World} {g : Nat} {cs : Array Value} {t : TypeId} {fr : Nat × Nat} (h : w.heap[g]? = some (.cells cs t fr)) (j : Nat) : w.cell? ⟨g, j, none⟩ = cs[j]? := by
  simp [World.cell?, h]
theorem block_frozen {w : World} {g : Nat} {cs : Array Value} {t : TypeId} (h : w.heap[g]? = some (.cells cs t (0, 0))) (j : Nat) : w.frozen? ⟨g, j, none⟩ = false := by
  simp only [World.frozen?, h]
  simp
theorem block_set {w : World} {g : Nat} {cs : Array Value} {t : TypeId} {fr : Nat × Nat} (h : w.heap[g]? = some (.cells cs t fr)) (j : Nat) (v : Value) : (w.setCell ⟨g, j, none⟩ v).heap[g]? = some (.cells (cs.setIfInBounds j v) t fr) := by
  simp only [World.setCell, Array.getElem?_modify]
  rw [if_pos trivial, h]
  rfl
theorem alloc_new (w : World) (o : Obj) (g : Nat) (h : g = w.heap.size) : (w.alloc o).heap[g]? = some o := by
  rw [h]
  exact World.alloc_heap_new w o
theorem lt_of_block {w : World} {g : Nat} {o : Obj} (h : w.heap[g]? = some o) : g < w.heap.size := by
  rcases Nat.lt_or_ge g w.heap.size with h1 | h1
  · exact h1
  · rw [Array.getElem?_eq_none h1] at h
    cases h
theorem add_zero (g j : Nat) : (⟨g, 0, none⟩ : Addr).add j = ⟨g, j, none⟩ := by
  unfold Addr.add
  simp
  intro h
  exact h.symm
theorem ownsRow_block {w w' : World} {base size n : Nat} {e : TypeId} {v : Value} {xs : List Value} (h : w.ownsRow base e size v n xs) (hb : ∀ k, v.ownBlock = some k → w'.heap[k]? = w.heap[k]?) : w'.ownsRow base e size v n xs := by
  refine ⟨h.1, ?_⟩
  rcases h.2 with h2 | ⟨g, cap, cur, rfl, h3, h4, h5⟩
  · exact .inl h2
  · exact .inr ⟨g, cap, cur, rfl, h3, (hb g rfl).trans h4, h5⟩
theorem ownsRow_form {w : World} {base size n : Nat} {e : TypeId} {v : Value} {xs : List Value} (h : w.ownsRow base e size v n xs) : ∃ o c, v = .slice o n c := by
  rcases h.2 with ⟨h2, h3⟩ | ⟨g, cap, cur, rfl, _⟩
  · exact ⟨none, 0, by rw [h2, h3]⟩
  · exact ⟨_, _, rfl⟩
theorem ownsRow_at {w : World} {base size n c : Nat} {e : TypeId} {o : Option Addr} {xs : List Value} (h : w.ownsRow base e size (.slice o n c) n xs) (hn : 0 < n) : ∃ g, o = some ⟨g, 0, none⟩ := by
  rcases h.2 with ⟨_, h3⟩ | ⟨g, cap, cur, e1, _⟩
  · omega
  · obtain ⟨e1, _, _⟩ := Value.slice.inj e1
    exact ⟨g, e1⟩
/-- Two rows of unlike types lie in unlike blocks. -/
theorem ownsRow_ne {w : World} {base size n : Nat} {e : TypeId} {v : Value} {xs : List Value} (h : w.ownsRow base e size v n xs) {g : Nat} {cs : Array Value} {t : TypeId} {fr : Nat × Nat} (hg : w.heap[g]? = some (.cells cs t fr)) (ht : t ≠ e) : v.ownBlock ≠ some g := by
  intro hk
  rcases h.2 with ⟨rfl, _⟩ | ⟨g', cap, cur, rfl, _, h4, _⟩
  · cases hk
  · have hk' : g' = g := by simpa [Value.ownBlock] using hk
    subst hk'
    rw [hg] at h4
    have := Option.some.inj h4
    injection this with _ h5
    exact ht h5

/-! ### Of what there was, some blocks alone have turned -/
structure OnlyF (F : Nat → Prop) (w w' : World) : Prop where
  os : w'.os = w.os
  tape : w'.tape = w.tape
  output : w'.output = w.output
  size : w.heap.size ≤ w'.heap.size
  block : ∀ b, b < w.heap.size → ¬ F b → w'.heap[b]? = w.heap[b]?
theorem OnlyF.refl (F : Nat → Prop) (w : World) : OnlyF F w w := ⟨rfl, rfl, rfl, Nat.le_refl _, fun _ _ _ => rfl⟩
theorem OnlyF.trans {F : Nat → Prop} {a b c : World} (h : OnlyF F a b) (k : OnlyF F b c) : OnlyF F a c :=
  ⟨k.os.trans h.os, k.tape.trans h.tape, k.output.trans h.output, Nat.le_trans h.size k.size, fun i hi hp => (k.block i (Nat.lt_of_lt_of_le hi h.size) hp).trans (h.block i hi hp)⟩
theorem OnlyF.of {F : Nat → Prop} {a b : World} (h : Below a.heap.size a b) : OnlyF F a b := ⟨h.os, h.tape, h.output, h.size, fun i hi _ => h.block i hi⟩
theorem OnlyF.set {F : Nat → Prop} {a b : World} (h : OnlyF F a b) {p : Nat} (hp : F p) (o : Nat) (v : Value) : OnlyF F a (b.setCell ⟨p, o, none⟩ v) :=
  ⟨h.os, h.tape, h.output, by simpa using h.size, fun i hi hn => (Below.heap_setCell _ _ _ _ (show i ≠ p from fun e => hn (e ▸ hp))).trans (h.block i hi hn)⟩
theorem OnlyF.alloc {F : Nat → Prop} {a b : World} (h : OnlyF F a b) (o : Obj) : OnlyF F a (b.alloc o) :=
  ⟨h.os, h.tape, h.output, by simpa using Nat.le_succ_of_le h.size, fun i hi hn => (heap_alloc_old b o (Nat.lt_of_lt_of_le hi h.size)).trans (h.block i hi hn)⟩
/-- What is a disk's own behind a call: what was, and what is new. -/
def grow (F : Nat → Prop) (w w' : World) : Nat → Prop := fun b => F b ∨ (w.heap.size ≤ b ∧ b < w'.heap.size)
theorem OnlyF.below {F : Nat → Prop} {B : Nat} {z a b : World} (h : OnlyF F a b) (hz : Below B z a) (hF : ∀ x, F x → B ≤ x) (hs : B ≤ z.heap.size) : Below B z b :=
  ⟨h.os.trans hz.os, h.tape.trans hz.tape, h.output.trans hz.output, Nat.le_trans hz.size h.size, fun i hi => (h.block i (by have := hz.size; omega) (fun hf => by have := hF i hf; omega)).trans (hz.block i hi)⟩

/-! ### A disk -/
/-- Loose writes, strings, bools in memory. -/
def looseV (L : List (Nat × ByteArray)) : List Value := L.flatMap fun x => [.int .i64 (x.1 : Int), .string x.2]
theorem looseV_length (L : List (Nat × ByteArray)) : (looseV L).length = L.length * 2 := by
  induction L with
  | nil => rfl
  | cons x l ih =>
    unfold looseV at ih ⊢
    rw [List.flatMap_cons, List.length_append, ih, List.length_cons]
    simp
    omega
theorem looseV_snoc (L : List (Nat × ByteArray)) (x : Nat × ByteArray) : looseV (L ++ [x]) = looseV L ++ [.int .i64 (x.1 : Int), .string x.2] := by
  unfold looseV
  rw [List.flatMap_append]
  rfl
theorem looseV_get (L : List (Nat × ByteArray)) (i : Nat) (x : Nat × ByteArray) (h : L[i]? = some x) : (looseV L)[i * 2]? = some (.int .i64 (x.1 : Int)) ∧ (looseV L)[i * 2 + 1]? = some (.string x.2) := by
  induction L generalizing i with
  | nil => cases h
  | cons y l ih =>
    have e : looseV (y :: l) = .int .i64 (y.1 : Int) :: .string y.2 :: looseV l := rfl
    rw [e]
    cases i with
    | zero =>
      obtain rfl : y = x := by simpa using h
      exact ⟨rfl, rfl⟩
    | succ i =>
      have := ih i (by simpa using h)
      rw [show (i + 1) * 2 = i * 2 + 1 + 1 from by omega]
      simpa using this
theorem looseV_one (L : List (Nat × ByteArray)) : ∀ u ∈ looseV L, u.oneCell' = true := by
  intro u hu
  unfold looseV at hu
  obtain ⟨x, _, hx⟩ := List.mem_flatMap.1 hu
  rcases List.mem_cons.1 hx with rfl | hx
  · rfl
  · obtain rfl := List.mem_singleton.1 hx
    rfl
structure Dk where
  sure : List ByteArray
  loose : List (Nat × ByteArray)
  down : Bool
  starts : Int
  fails : Bool
  left : Int
  keep : List Bool
/-- A disk in memory, all of it in F. -/
structure DAt (W : World) (F : Nat → Prop) (p : Nat) (sv lv kv : Value) (d : Dk) : Prop where
  fp : F p
  fs : ∀ k, sv.ownBlock = some k → F k
  fl : ∀ k, lv.ownBlock = some k → F k
  fk : ∀ k, kv.ownBlock = some k → F k
  m : W.heap[p]? = some (.cells #[sv, lv, .bool d.down, .int .i64 d.starts, .bool d.fails, .int .i64 d.left, kv] 47 (0, 0))
  su : W.ownsRow 0 9 1 sv d.sure.length (d.sure.map Value.string)
  lo : W.ownsRow 0 66 2 lv d.loose.length (looseV d.loose)
  ke : W.ownsRow 0 4 1 kv d.keep.length (d.keep.map Value.bool)
theorem DAt.wider {W : World} {F G : Nat → Prop} {p : Nat} {sv lv kv : Value} {d : Dk} (h : DAt W F p sv lv kv d) (hG : ∀ x, F x → G x) : DAt W G p sv lv kv d :=
  ⟨hG _ h.fp, fun k hk => hG _ (h.fs k hk), fun k hk => hG _ (h.fl k hk), fun k hk => hG _ (h.fk k hk), h.m, h.su, h.lo, h.ke⟩
/-- Whatever leaves the blocks of F as they are leaves the disk. -/
theorem DAt.keep {W W' : World} {F : Nat → Prop} {p : Nat} {sv lv kv : Value} {d : Dk} (h : DAt W F p sv lv kv d) (hb : ∀ b, b < W.heap.size → F b → W'.heap[b]? = W.heap[b]?) : DAt W' F p sv lv kv d :=
  ⟨h.fp, h.fs, h.fl, h.fk, (hb p (lt_of_block h.m) h.fp).trans h.m, ownsRow_block h.su (fun k hk => hb k (h.su.lt k hk).2 (h.fs k hk)), ownsRow_block h.lo (fun k hk => hb k (h.lo.lt k hk).2 (h.fl k hk)), ownsRow_block h.ke (fun k hk => hb k (h.ke.lt k hk).2 (h.fk k hk))⟩
theorem DAt.keepB {W W' : World} {F : Nat → Prop} {p : Nat} {sv lv kv : Value} {d : Dk} (h : DAt W F p sv lv kv d) (hB : Below W.heap.size W W') : DAt W' F p sv lv kv d := h.keep fun b hb _ => hB.block b hb
theorem DAt.ns {W : World} {F : Nat → Prop} {p : Nat} {sv lv kv : Value} {d : Dk} (h : DAt W F p sv lv kv d) : sv.ownBlock ≠ some p := ownsRow_ne h.su h.m (by decide)
theorem DAt.nl {W : World} {F : Nat → Prop} {p : Nat} {sv lv kv : Value} {d : Dk} (h : DAt W F p sv lv kv d) : lv.ownBlock ≠ some p := ownsRow_ne h.lo h.m (by decide)
theorem DAt.nk {W : World} {F : Nat → Prop} {p : Nat} {sv lv kv : Value} {d : Dk} (h : DAt W F p sv lv kv d) : kv.ownBlock ≠ some p := ownsRow_ne h.ke h.m (by decide)
/-- A store into the head block. -/
theorem DAt.head {W : World} {F : Nat → Prop} {p : Nat} {sv lv kv : Value} {d : Dk} (h : DAt W F p sv lv kv d) (o : Nat) (v : Value) :
    (∀ g, g ≠ p → (W.setCell ⟨p, o, none⟩ v).heap[g]? = W.heap[g]?) ∧ (W.setCell ⟨p, o, none⟩ v).heap[p]? = some (.cells (#[sv, lv, .bool d.down, .int .i64 d.starts, .bool d.fails, .int .i64 d.left, kv].setIfInBounds o v) 47 (0, 0)) :=
  ⟨fun _ hg => Below.heap_setCell _ _ _ _ hg, block_set h.m o v⟩
theorem DAt.putHead {W : World} {F : Nat → Prop} {p : Nat} {sv lv kv : Value} {d : Dk} (h : DAt W F p sv lv kv d) (o : Nat) (v : Value) (d' : Dk) (hs : d'.sure = d.sure) (hl : d'.loose = d.loose) (hk : d'.keep = d.keep)
    (hm : #[sv, lv, .bool d.down, .int .i64 d.starts, .bool d.fails, .int .i64 d.left, kv].setIfInBounds o v = #[sv, lv, .bool d'.down, .int .i64 d'.starts, .bool d'.fails, .int .i64 d'.left, kv]) : DAt (W.setCell ⟨p, o, none⟩ v) F p sv lv kv d' := by
  obtain ⟨h1, h2⟩ := h.head o v
  refine ⟨h.fp, h.fs, h.fl, h.fk, by rw [h2, hm], ?_, ?_, ?_⟩
  · rw [hs]; exact ownsRow_block h.su fun k hk => h1 k fun e => h.ns (by rw [hk, e])
  · rw [hl]; exact ownsRow_block h.lo fun k hk => h1 k fun e => h.nl (by rw [hk, e])
  · rw [hk]; exact ownsRow_block h.ke fun k hk => h1 k fun e => h.nk (by rw [hk, e])
end Go.Proofs.Yteblobookpldfaa.Se
