/- Plain words for walks over objects in memory: what a call may have turned ('Ext'), a block known whole ('Blk'). No program in sight. -/
import Derived.WalkKit
import Derived.WalkSpells
import Derived.WalkLawsBesides
import Derived.Deep.QuietTactic
import Derived.BigQuiet
import Derived.Deep.RegionHeld3
import Derived.Deep.OwnRows
import Derived.StillTailTactics
import Derived.KernelRfl
import Derived.Lib.Hide
namespace Go.Proofs.YtlbphffnbhoghaaDoor
open Go.RowKit

/-- Blocks that lay before and are not of S are as they were. -/
structure Ext (S : Nat → Prop) (w w' : World) : Prop where
  os : w'.os = w.os
  tape : w'.tape = w.tape
  output : w'.output = w.output
  size : w.heap.size ≤ w'.heap.size
  keep : ∀ k, k < w.heap.size → ¬ S k → w'.heap[k]? = w.heap[k]?

theorem Ext.refl (S : Nat → Prop) (w : World) : Ext S w w := ⟨rfl, rfl, rfl, Nat.le_refl _, fun _ _ _ => rfl⟩
theorem Ext.trans' {S T : Nat → Prop} {a b c : World} (h : Ext S a b) (k : Ext T b c) (hT : ∀ i, T i → S i ∨ a.heap.size ≤ i) : Ext S a c :=
  ⟨k.os.trans h.os, k.tape.trans h.tape, k.output.trans h.output, Nat.le_trans h.size k.size, fun i hi hs =>
    (k.keep i (Nat.lt_of_lt_of_le hi h.size) (fun ht => (hT i ht).elim hs (fun h => by omega))).trans (h.keep i hi hs)⟩
theorem Ext.trans {S : Nat → Prop} {a b c : World} (h : Ext S a b) (k : Ext S b c) : Ext S a c := h.trans' k fun _ h => .inl h
theorem Ext.mono {S T : Nat → Prop} {a b : World} (h : Ext S a b) (hT : ∀ i, i < a.heap.size → S i → T i) : Ext T a b :=
  ⟨h.os, h.tape, h.output, h.size, fun i hi ht => h.keep i hi (fun hs => ht (hT i hi hs))⟩
theorem Ext.alloc {S : Nat → Prop} {a w : World} (h : Ext S a w) (o : Obj) : Ext S a (w.alloc o) :=
  h.trans' (T := fun _ => False) ⟨rfl, rfl, rfl, by simp, fun k hk _ => Below.heap_alloc _ _ _ hk⟩ (fun _ h => h.elim)
theorem Ext.setCell {S : Nat → Prop} {a w : World} (h : Ext S a w) (p : Addr) (v : Value) (hp : S p.block ∨ a.heap.size ≤ p.block) : Ext S a (w.setCell p v) :=
  h.trans' (T := fun i => i = p.block) ⟨rfl, rfl, rfl, by simp [World.setCell], fun k _ hs => Below.heap_setCell _ _ _ _ hs⟩ (fun _ h => h ▸ hp)
theorem Ext.drewN {S : Nat → Prop} {a w : World} (h : Ext S a w) (n : Nat) : Ext S a (w.drewN n) := ⟨h.os, h.tape, h.output, h.size, h.keep⟩
theorem Ext.drew {S : Nat → Prop} {a w : World} (h : Ext S a w) : Ext S a w.drew := ⟨h.os, h.tape, h.output, h.size, h.keep⟩
theorem Ext.grown {S : Nat → Prop} {a w w' : World} {row : Option Nat} (h : Ext S a w) (g : w.grownBy w' row) (hr : ∀ k, row = some k → S k ∨ a.heap.size ≤ k) : Ext S a w' :=
  h.trans' (T := fun i => row = some i) ⟨g.os, g.tape, g.output, g.size, fun k hk hs => g.block k hk (fun e => hs e.symm)⟩ hr
theorem Ext.below {S : Nat → Prop} {w w' : World} (h : Ext S w w') {B : Nat} (hS : ∀ i, i < w.heap.size → S i → B ≤ i) (hB : B ≤ w.heap.size) : Below B w w' :=
  ⟨h.os, h.tape, h.output, h.size, fun k hk => h.keep k (by omega) (fun hs => by have := hS k (by omega) hs; omega)⟩
theorem Ext.of_below {w w' : World} (h : Below w.heap.size w w') (S : Nat → Prop) : Ext S w w' := ⟨h.os, h.tape, h.output, h.size, fun k hk _ => h.block k hk⟩

/-- The block b holds just these cells, none frozen. -/
def Blk (w : World) (b : Nat) (cs : List Value) (T : TypeId) : Prop := w.heap[b]? = some (.cells cs.toArray T (0, 0))

theorem Blk.lt {w : World} {b : Nat} {cs : List Value} {T : TypeId} (h : Blk w b cs T) : b < w.heap.size := (Array.getElem?_eq_some_iff.1 h).1
theorem Blk.cell {w : World} {b : Nat} {cs : List Value} {T : TypeId} (h : Blk w b cs T) (i : Nat) (v : Value) (hv : cs[i]? = some v) : w.cell? ⟨b, i, none⟩ = some v := by
  unfold Blk at h; simp [World.cell?, h, hv]
theorem Blk.frz {w : World} {b : Nat} {cs : List Value} {T : TypeId} (h : Blk w b cs T) (o : Nat) : w.frozen? ⟨b, o, none⟩ = false := by
  unfold Blk at h; simp [World.frozen?, h]
/-- All cells of a row, spelled out. -/
def CellsAt (w : World) (b : Nat) : Nat → List Value → Prop
  | _, [] => True
  | i, v :: vs => w.cell? ⟨b, i, none⟩ = some v ∧ CellsAt w b (i + 1) vs
theorem CellsAt.of {w : World} {b : Nat} : ∀ (vs : List Value) (i : Nat), (∀ j v, vs[j]? = some v → w.cell? ⟨b, i + j, none⟩ = some v) → CellsAt w b i vs
  | [], _, _ => trivial
  | v :: vs, i, h => ⟨h 0 v rfl, CellsAt.of vs (i + 1) fun j u hu => by have := h (j + 1) u (by simpa using hu); rwa [show i + (j + 1) = i + 1 + j by omega] at this⟩
theorem Blk.open_ {w : World} {b : Nat} {cs : List Value} {T : TypeId} (h : Blk w b cs T) : b < w.heap.size ∧ (∀ o, w.frozen? ⟨b, o, none⟩ = false) ∧ CellsAt w b 0 cs :=
  ⟨h.lt, h.frz, CellsAt.of cs 0 fun j v hv => by rw [Nat.zero_add]; exact h.cell j v hv⟩
theorem Blk.alloc {w : World} {b : Nat} {cs : List Value} {T : TypeId} (h : Blk w b cs T) (o : Obj) : Blk (w.alloc o) b cs T := (Below.heap_alloc w o b h.lt).trans h
theorem Blk.new (w : World) (cs : List Value) (T : TypeId) : Blk (w.alloc (.cells cs.toArray T (0, 0))) w.heap.size cs T := by
  show (w.heap.push _)[w.heap.size]? = _; simp
theorem Blk.other {w : World} {b : Nat} {cs : List Value} {T : TypeId} (h : Blk w b cs T) (p : Addr) (v : Value) (hp : b ≠ p.block) : Blk (w.setCell p v) b cs T := (Below.heap_setCell w p v b hp).trans h
theorem Blk.set {w : World} {b : Nat} {cs : List Value} {T : TypeId} (h : Blk w b cs T) (i : Nat) (v : Value) : Blk (w.setCell ⟨b, i, none⟩ v) b (cs.set i v) T := by
  unfold Blk at h ⊢
  have hlt := (Array.getElem?_eq_some_iff.1 h).1
  have he := (Array.getElem?_eq_some_iff.1 h).2
  show (w.heap.modify b _)[b]? = _
  rw [Array.getElem?_eq_getElem (by rw [Array.size_modify]; exact hlt), Array.getElem_modify_self, he]
  simp
theorem Blk.drewN {w : World} {b : Nat} {cs : List Value} {T : TypeId} (h : Blk w b cs T) (n : Nat) : Blk (w.drewN n) b cs T := h
theorem Blk.drew {w : World} {b : Nat} {cs : List Value} {T : TypeId} (h : Blk w b cs T) : Blk w.drew b cs T := h
theorem Blk.ext {w w' : World} {b : Nat} {cs : List Value} {T : TypeId} (h : Blk w b cs T) {S : Nat → Prop} (e : Ext S w w') (hS : ¬ S b) : Blk w' b cs T := (e.keep b h.lt hS).trans h
theorem Blk.inj {w : World} {b : Nat} {cs ds : List Value} {T U : TypeId} (h : Blk w b cs T) (k : Blk w b ds U) : cs = ds := by
  unfold Blk at h k; rw [h] at k; simpa using (Obj.cells.inj (Option.some.inj k)).1
theorem Blk.keep {w w' : World} {b : Nat} {cs : List Value} {T : TypeId} (h : Blk w b cs T) (e : w'.heap[b]? = w.heap[b]?) : Blk w' b cs T := e.trans h

/-- Cells of old blocks, behind a call that leaves them. -/
theorem Ext.cell {S : Nat → Prop} {w w' : World} (h : Ext S w w') {b : Nat} (hb : b < w.heap.size) (hS : ¬ S b) (o : Nat) : w'.cell? ⟨b, o, none⟩ = w.cell? ⟨b, o, none⟩ := by
  simp only [World.cell?, h.keep b hb hS]
theorem Ext.frz {S : Nat → Prop} {w w' : World} (h : Ext S w w') {b : Nat} (hb : b < w.heap.size) (hS : ¬ S b) (o : Nat) : w'.frozen? ⟨b, o, none⟩ = w.frozen? ⟨b, o, none⟩ := by
  simp only [World.frozen?, h.keep b hb hS]

theorem ext_set {b : Nat} {a w : World} (h : Ext (fun k => k = b) a w) (i : Nat) (v : Value) : Ext (fun k => k = b) a (w.setCell ⟨b, i, none⟩ v) := h.setCell _ _ (.inl rfl)
theorem Blk.conv {w : World} {b : Nat} {cs ds : List Value} {T : TypeId} (h : Blk w b cs T) (e : cs = ds) : Blk w b ds T := e ▸ h
/-- A footprint behind a step: what it was, and the blocks that the step has laid. -/
def grow (F : Nat → Prop) (w w' : World) (k : Nat) : Prop := F k ∨ (w.heap.size ≤ k ∧ k < w'.heap.size)
theorem grow.old {F : Nat → Prop} {w w' : World} {k : Nat} (h : F k) : grow F w w' k := .inl h
theorem grow.new {F : Nat → Prop} {w w' : World} {k : Nat} (h : w.heap.size ≤ k) (h' : k < w'.heap.size) : grow F w w' k := .inr ⟨h, h'⟩
theorem grow.lt {F : Nat → Prop} {w w' : World} (h : ∀ k, F k → k < w.heap.size) (hs : w.heap.size ≤ w'.heap.size) : ∀ k, grow F w w' k → k < w'.heap.size
  | _, .inl hk => Nat.lt_of_lt_of_le (h _ hk) hs
  | _, .inr hk => hk.2
theorem grow.apart {F G : Nat → Prop} {w w' : World} (h : ∀ k, F k → ¬ G k) (hG : ∀ k, G k → k < w.heap.size) : ∀ k, grow F w w' k → ¬ G k
  | _, .inl hk, hg => h _ hk hg
  | _, .inr hk, hg => by have := hG _ hg; omega
theorem grow.no {F : Nat → Prop} {w w' : World} {t : Nat} (h : ¬ F t) (ht : t < w.heap.size) : ¬ grow F w w' t
  | .inl hk => h hk
  | .inr hk => by have := hk.1; omega
theorem grow.mono {F G : Nat → Prop} {w w' : World} (h : ∀ k, F k → G k) : ∀ k, grow F w w' k → grow G w w' k
  | _, .inl hk => .inl (h _ hk)
  | _, .inr hk => .inr hk
theorem grow.step {F : Nat → Prop} {a b c : World} (h : a.heap.size ≤ b.heap.size) (h' : b.heap.size ≤ c.heap.size) : ∀ k, grow (grow F a b) b c k → grow F a c k
  | _, .inl (.inl hk) => .inl hk
  | _, .inl (.inr hk) => .inr ⟨hk.1, by omega⟩
  | _, .inr hk => .inr ⟨by omega, hk.2⟩
/-- Two steps, each on a footprint that has grown since. -/
theorem Ext.grows {F : Nat → Prop} {a b c : World} (h : Ext F a b) (k : Ext (grow F a b) b c) : Ext F a c :=
  h.trans' k fun _ h => h.elim .inl fun h => .inr h.1
theorem map_inj_nodup {α β : Type} {f : α → β} : ∀ {l : List α}, (l.map f).Nodup → ∀ {a b : α}, a ∈ l → b ∈ l → f a = f b → a = b
  | [], _, _, _, h, _, _ => by cases h
  | x :: l, h, a, b, ha, hb, e => by
    simp only [List.map_cons, List.nodup_cons, List.mem_map, not_exists, not_and] at h
    rcases List.mem_cons.1 ha with rfl | ha' <;> rcases List.mem_cons.1 hb with rfl | hb'
    · rfl
    · exact absurd e.symm (h.1 b hb')
    · exact absurd e (h.1 a ha')
    · exact map_inj_nodup h.2 ha' hb' e
theorem ret_eq {a b : Value} (h : a = b) : Ending.returned a = .returned b := by rw [h]
/-- A quiet call that may make blocks. -/
theorem cell_old {w : World} {a : Addr} {v : Value} (h : w.cell? a = some v) (o : Obj) : (w.alloc o).cell? a = some v := by
  have hb : a.block < w.heap.size := by
    unfold World.cell? at h
    cases hh : w.heap[a.block]? with
    | none => simp [hh] at h
    | some o => exact (Array.getElem?_eq_some_iff.1 hh).1
  rw [← h]; simp only [World.cell?, Below.heap_alloc w o a.block hb]
end Go.Proofs.YtlbphffnbhoghaaDoor
