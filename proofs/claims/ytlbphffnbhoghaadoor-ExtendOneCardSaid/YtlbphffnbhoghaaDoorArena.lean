/- The arena: how it lies in memory, and what its methods do. -/
import Derived.Test.YtlbphffnbhoghaaDoorNum
import Derived.RangeFuncRecord
import Derived.MapKept
namespace Go.Proofs.YtlbphffnbhoghaaDoor
open Go.RowKit
set_option maxRecDepth 100000
set_option linter.unusedVariables false
set_option linter.unusedSimpArgs false

/-- A block of the arena: its number, the heap's block that holds its words, the words, the map entry's stamp. -/
structure AE where
  key : Int
  at_ : Nat
  ws : List Int
  born : Nat
def AE.val (e : AE) : Value := .slice (some ⟨e.at_, 0, none⟩) e.ws.length e.ws.length
def AE.me (e : AE) : MapEntry := { key := u64 e.key, val := e.val, born := e.born }
def AE.find (k : Int) : List AE → Nat → Option (Nat × AE)
  | [], _ => none
  | e :: es, i => if k = e.key then some (i, e) else AE.find k es (i + 1)
theorem findNow_ae (k : Int) (es : List AE) : ∀ i, Instr.findNow (.int .u64) (u64 k) (es.map AE.me) i = some ((AE.find k es i).map fun p => (p.1, p.2.val)) := by
  induction es with
  | nil => intro i; rfl
  | cons e es ih =>
    intro i
    simp only [List.map_cons, Instr.findNow, AE.me, u64, Instr.sameNow, if_true, AE.find]
    by_cases h : k = e.key
    · simp [h]
    · have h' : (k == e.key) = false := by simpa using h
      simp only [h', if_neg h]; exact ih (i + 1)
theorem AE.find_none {k : Int} {es : List AE} : ∀ {i}, AE.find k es i = none ↔ ∀ e ∈ es, e.key ≠ k := by
  induction es with
  | nil => intro i; simp [AE.find]
  | cons e es ih =>
    intro i
    simp only [AE.find, List.mem_cons, forall_eq_or_imp]
    by_cases h : k = e.key
    · simp [h]
    · rw [if_neg h, ih]; exact ⟨fun hh => ⟨fun e' => h e'.symm, hh⟩, fun hh => hh.2⟩
theorem AE.find_some {k : Int} {es : List AE} : ∀ {i j e}, AE.find k es i = some (j, e) → i ≤ j ∧ es[j - i]? = some e ∧ e.key = k ∧ e ∈ es := by
  induction es with
  | nil => intro i j e h; simp [AE.find] at h
  | cons x es ih =>
    intro i j e h
    simp only [AE.find] at h
    by_cases hk : k = x.key
    · rw [if_pos hk] at h; simp only [Option.some.injEq, Prod.mk.injEq] at h; obtain ⟨rfl, rfl⟩ := h
      exact ⟨Nat.le_refl _, by simp, hk.symm, List.mem_cons_self⟩
    · rw [if_neg hk] at h
      obtain ⟨h1, h2, h3, h4⟩ := ih h
      refine ⟨by omega, ?_, h3, List.mem_cons_of_mem _ h4⟩
      rw [show j - i = (j - (i + 1)) + 1 by omega]; simpa using h2
theorem zeroSl (w : World) : (zeroValue 75).run Tryd.prog w = .ok (.slice none 0 0) w := by kernel_rfl
theorem isKey_u64 (k : Int) : MapKept.IsKey (.int .u64) (u64 k) := rfl
theorem run_look (w : World) (mb : Nat) (es : List AE) (ck : Nat) (h : w.heap[mb]? = some (.map (es.map AE.me).toArray ck)) (k : Int) :
    (Instr.lookup 137 (.map (some mb)) (u64 k) true).run Tryd.prog w =
      .ok (.tuple #[((AE.find k es 0).map fun p => p.2.val).getD (.slice none 0 0), .bool (AE.find k es 0).isSome]) w := by
  have h1 := findNow_ae k es 0
  have hf := MapKept.run_findKey (P := Tryd.prog) (w := w) Tryd.underlying27 h1
  cases hh : AE.find k es 0 with
  | none =>
    rw [hh] at hf
    simp [Instr.lookup, run_underlying Tryd.underlying137, MapKept.run_getObj_map h, MapKept.run_checkKey Tryd.underlying27 (isKey_u64 k), hf, Result.andThen]
  | some p =>
    rw [hh] at hf
    simp [Instr.lookup, run_underlying Tryd.underlying137, MapKept.run_getObj_map h, MapKept.run_checkKey Tryd.underlying27 (isKey_u64 k), hf, Result.andThen]
/-- What the arena is, whatever lies where. -/
structure PA where
  cells : Int
  used : Int
  faults : Int
  last : Int
  blk : List (Int × List Int)
/-- The arena lies at block b: its struct, its map, its blocks. -/
structure ArAt (w : World) (b : Nat) (A : PA) (mb : Nat) (es : List AE) (ck : Nat) : Prop where
  hd : Blk w b [i64 A.cells, i64 A.used, i64 A.faults, u64 A.last, .map (some mb)] 139
  mp : w.heap[mb]? = some (.map (es.map AE.me).toArray ck)
  bl : ∀ e ∈ es, Blk w e.at_ (e.ws.map u64) 27
  ab : A.blk = es.map fun e => (e.key, e.ws)
  nd : (es.map AE.at_).Nodup
def totalW : List (Int × List Int) → Int
  | [] => 0
  | p :: l => p.2.length + totalW l
theorem totalW_nonneg : ∀ l, 0 ≤ totalW l
  | [] => Int.le_refl _
  | p :: l => by have := totalW_nonneg l; simp only [totalW]; omega
theorem totalW_mem : ∀ {l : List (Int × List Int)} {p : Int × List Int}, p ∈ l → (p.2.length : Int) ≤ totalW l
  | q :: l, p, h => by
    have := totalW_nonneg l
    simp only [totalW]
    rcases List.mem_cons.1 h with rfl | h
    · omega
    · have := totalW_mem h; omega
theorem totalW_append : ∀ (l m : List (Int × List Int)), totalW (l ++ m) = totalW l + totalW m
  | [], m => by simp [totalW]
  | p :: l, m => by simp only [List.cons_append, totalW, totalW_append l m]; omega
structure PA.Ok (A : PA) : Prop where
  c0 : 1 ≤ A.cells
  c1 : A.cells ≤ 65536
  u1 : A.used ≤ A.cells
  us : A.used = totalW A.blk
  f0 : 0 ≤ A.faults
  f1 : A.faults < 1000000000000
  l0 : 0 ≤ A.last
  l1 : A.last < 1000000000000
  ks : ∀ p ∈ A.blk, 1 ≤ p.1 ∧ p.1 ≤ A.last ∧ 1 ≤ p.2.length
  ws : ∀ p ∈ A.blk, ∀ x ∈ p.2, 0 ≤ x ∧ x < 18446744073709551616
  nk : (A.blk.map (·.1)).Nodup
theorem map_nil (w : World) (mb : Nat) : (binOp .eql 137 (.map (some mb)) (.map none)).run Tryd.prog w = .ok (.bool false) w :=
  run_eql_map_nil (P := Tryd.prog) w 137 27 75 (some mb) Tryd.underlying137
/-- The arena's cells, as the walk wants them. -/
def ArC (w : World) (b : Nat) (A : PA) (mb : Nat) : Prop := b < w.heap.size ∧ (∀ o, w.frozen? ⟨b, o, none⟩ = false) ∧ w.cell? ⟨b, 0, none⟩ = some (i64 A.cells) ∧ w.cell? ⟨b, 1, none⟩ = some (i64 A.used) ∧ w.cell? ⟨b, 2, none⟩ = some (i64 A.faults) ∧ w.cell? ⟨b, 3, none⟩ = some (u64 A.last) ∧ w.cell? ⟨b, 4, none⟩ = some (.map (some mb))
theorem ArAt.c {w : World} {b : Nat} {A : PA} {mb : Nat} {es : List AE} {ck : Nat} (h : ArAt w b A mb es ck) : ArC w b A mb :=
  ⟨h.hd.lt, h.hd.frz, h.hd.cell 0 _ rfl, h.hd.cell 1 _ rfl, h.hd.cell 2 _ rfl, h.hd.cell 3 _ rfl, h.hd.cell 4 _ rfl⟩

theorem none_c (w : World) (b : Nat) (A : PA) (mb : Nat) (h : ArC w b A mb) : Calls Tryd.prog 73 #[ptr b] w (RetS (.bool false) w) := by
  obtain ⟨_, _, c0, c1, c2, c3, c4⟩ := h
  have hm := map_nil
  go_enter Tryd.func73, Tryd.ntmps73
  go_wp2
  go_ret
  exact ⟨rfl, rfl⟩
/-- The cell's address; no such block; no such cell. -/
theorem cell_ok (w : World) (b : Nat) (A : PA) (mb : Nat) (es : List AE) (ck : Nat) (h : ArAt w b A mb es ck) (k i : Int) (j : Nat) (e : AE) (hf : AE.find k es 0 = some (j, e)) (h0 : 0 ≤ i) (h1 : i < e.ws.length) :
    Calls Tryd.prog 64 #[ptr b, u64 k, i64 i] w (RetS (.tuple #[.pointer (some ⟨e.at_, i.toNat, none⟩), i64 0]) w) := by
  have hc := h.c
  obtain ⟨_, _, c0, c1, c2, c3, c4⟩ := h.c
  have hrun := run_look w mb es ck h.mp k
  rw [hf] at hrun
  simp only [Option.map_some, Option.getD_some, Option.isSome_some, AE.val] at hrun
  clear h hf
  have hc' := Lib.hid hc; clear hc
  go_enter Tryd.func64, Tryd.ntmps64
  go_wp2_with (go_at_call 73; with_reducible refine use_s (none_c _ _ _ _ hc'.out) ?_)
  go_ret2
  exact ⟨rfl, rfl⟩

/-- The words of block k. -/
def lookW (k : Int) : List (Int × List Int) → Option (List Int)
  | [] => none
  | p :: l => if k = p.1 then some p.2 else lookW k l
def PA.get (A : PA) (k : Int) : Option (List Int) := lookW k A.blk
def setW (k : Int) (i : Nat) (v : Int) (l : List (Int × List Int)) : List (Int × List Int) := l.map fun p => if p.1 = k then (p.1, p.2.set i v) else p
def PA.put (A : PA) (k : Int) (i : Int) (v : Int) : PA := { A with blk := setW k i.toNat v A.blk }
theorem lookW_find {k : Int} : ∀ {es : List AE} {i : Nat} {ws : List Int}, lookW k (es.map fun e => (e.key, e.ws)) = some ws → ∃ j e, AE.find k es i = some (j, e) ∧ e.ws = ws
  | [], _, _, h => by simp [lookW] at h
  | e :: es, i, ws, h => by
    simp only [List.map_cons, lookW] at h
    simp only [AE.find]
    by_cases hk : k = e.key
    · rw [if_pos hk] at h ⊢; exact ⟨i, e, rfl, by simpa using h⟩
    · rw [if_neg hk] at h ⊢; exact lookW_find h
/-- The arena at b, all of it in the footprint F. -/
def ArRep (w : World) (b : Nat) (A : PA) (F : Nat → Prop) : Prop :=
  (∃ mb es ck, ArAt w b A mb es ck ∧ F mb ∧ ∀ e ∈ es, F e.at_) ∧ F b ∧ (∀ k, F k → k < w.heap.size) ∧ A.Ok
theorem ArAt.keep {w w' : World} {b : Nat} {A : PA} {mb : Nat} {es : List AE} {ck : Nat} (h : ArAt w b A mb es ck) (hb : w'.heap[b]? = w.heap[b]?) (hm : w'.heap[mb]? = w.heap[mb]?) (he : ∀ e ∈ es, w'.heap[e.at_]? = w.heap[e.at_]?) : ArAt w' b A mb es ck :=
  ⟨h.hd.keep hb, hm.trans h.mp, fun e hx => (h.bl e hx).keep (he e hx), h.ab, h.nd⟩
theorem ArRep.ext {w w' : World} {b : Nat} {A : PA} {F S : Nat → Prop} (h : ArRep w b A F) (e : Ext S w w') (hS : ∀ k, F k → ¬ S k) : ArRep w' b A F := by
  obtain ⟨⟨mb, es, ck, ha, hm, he⟩, hb, hlt, hok⟩ := h
  have kp : ∀ k, F k → w'.heap[k]? = w.heap[k]? := fun k hk => e.keep k (hlt k hk) (hS k hk)
  exact ⟨⟨mb, es, ck, ha.keep (kp _ hb) (kp _ hm) (fun x hx => kp _ (he x hx)), hm, he⟩, hb, fun k hk => Nat.lt_of_lt_of_le (hlt k hk) e.size, hok⟩

theorem Load_ok (w : World) (b : Nat) (A : PA) (F : Nat → Prop) (h : ArRep w b A F) (k i : Int) (ws : List Int) (hg : A.get k = some ws) (h0 : 0 ≤ i) (h1 : i < ws.length) :
    Calls Tryd.prog 19 #[ptr b, u64 k, i64 i] w (RetS (.tuple #[u64 (ws.getD i.toNat 0), i64 0]) w) := by
  obtain ⟨⟨mb, es, ck, ha, hm, he⟩, hb, hlt, hok⟩ := h
  unfold PA.get at hg; rw [ha.ab] at hg
  obtain ⟨j, e, hf, rfl⟩ := lookW_find (i := 0) hg
  have hc := cell_ok w b A mb es ck ha k i j e hf h0 h1
  have hcell : w.cell? ⟨e.at_, i.toNat, none⟩ = some (u64 (e.ws.getD i.toNat 0)) := (ha.bl e (AE.find_some hf).2.2.2).cell _ _ (by
    rw [List.getElem?_map, List.getD_eq_getElem?_getD, List.getElem?_eq_getElem (by omega)]; rfl)
  generalize e.ws.getD i.toNat 0 = v at hcell
  clear hg hf
  have hc' := Lib.hid hc; clear hc
  go_enter Tryd.func19, Tryd.ntmps19
  go_wp2_with (go_at_call 64; with_reducible refine use_s hc'.out ?_)
  go_ret2
  exact ⟨rfl, rfl⟩

theorem setW_keys (k : Int) (i : Nat) (v : Int) (l : List (Int × List Int)) : (setW k i v l).map (·.1) = l.map (·.1) := by
  unfold setW; rw [List.map_map]; apply List.map_congr_left; intro p _; simp only [Function.comp]; split <;> rfl
theorem mem_setW {k : Int} {i : Nat} {v : Int} {l : List (Int × List Int)} {p : Int × List Int} (h : p ∈ setW k i v l) : ∃ q ∈ l, p.1 = q.1 ∧ p.2.length = q.2.length ∧ ∀ x ∈ p.2, x = v ∨ x ∈ q.2 := by
  unfold setW at h
  obtain ⟨q, hq, rfl⟩ := List.mem_map.1 h
  refine ⟨q, hq, ?_⟩
  split
  · refine ⟨rfl, by simp, fun x hx => ?_⟩
    rcases List.mem_or_eq_of_mem_set hx with h | h
    · exact .inr h
    · exact .inl h
  · exact ⟨rfl, rfl, fun x hx => .inr hx⟩
theorem totalW_set (k : Int) (i : Nat) (v : Int) : ∀ l, totalW (setW k i v l) = totalW l
  | [] => rfl
  | p :: l => by
    have := totalW_set k i v l
    simp only [setW, List.map_cons, totalW] at *
    rw [this]; split <;> simp
theorem PA.Ok.used0 {A : PA} (h : A.Ok) : 0 ≤ A.used := by rw [h.us]; exact totalW_nonneg _
theorem PA.Ok.put {A : PA} (h : A.Ok) (k i v : Int) (v0 : 0 ≤ v) (v1 : v < 18446744073709551616) : (A.put k i v).Ok := by
  refine ⟨h.c0, h.c1, h.u1, h.us.trans (totalW_set k i.toNat v A.blk).symm, h.f0, h.f1, h.l0, h.l1, ?_, ?_, ?_⟩
  · intro p hp; obtain ⟨q, hq, e1, e2, _⟩ := mem_setW hp; rw [e1, e2]; exact h.ks q hq
  · intro p hp x hx
    obtain ⟨q, hq, _, _, e3⟩ := mem_setW hp
    rcases e3 x hx with rfl | hx
    · exact ⟨v0, v1⟩
    · exact h.ws q hq x hx
  · show ((setW k i.toNat v A.blk).map (·.1)).Nodup
    rw [setW_keys]; exact h.nk
/-- Behind a store into a cell of the arena. -/
theorem ArRep.put {w : World} {b : Nat} {A : PA} {F : Nat → Prop} {mb : Nat} {es : List AE} {ck : Nat} (ha : ArAt w b A mb es ck) (hm : F mb) (he : ∀ e ∈ es, F e.at_) (hb : F b) (hlt : ∀ k, F k → k < w.heap.size) (hok : A.Ok)
    {k i : Int} {j : Nat} {e : AE} (hf : AE.find k es 0 = some (j, e)) (v : Int) (v0 : 0 ≤ v) (v1 : v < 18446744073709551616) :
    ArRep (w.setCell ⟨e.at_, i.toNat, none⟩ (u64 v)) b (A.put k i v) F := by
  have hmem := (AE.find_some hf).2.2.2
  have hkey := (AE.find_some hf).2.2.1
  have hblk := ha.bl e hmem
  have nb : b ≠ e.at_ := fun q => by
    have h1 := ha.hd; have h2 := hblk; rw [← q] at h2
    unfold Blk at h1 h2; rw [h1] at h2; have := (Obj.cells.inj (Option.some.inj h2)).2.1; exact absurd this (by decide)
  have nm : mb ≠ e.at_ := fun q => by
    have h1 := ha.mp; have h2 := hblk; rw [← q] at h2
    unfold Blk at h2; rw [h1] at h2; cases h2
  refine ⟨⟨mb, es.map fun x => if x.key = k then { x with ws := x.ws.set i.toNat v } else x, ck, ⟨?_, ?_, ?_, ?_, ?_⟩, hm, ?_⟩, hb, ?_, hok.put k i v v0 v1⟩
  · exact ha.hd.other _ _ nb
  · have e1 : (es.map fun x => if x.key = k then { x with ws := x.ws.set i.toNat v } else x).map AE.me = es.map AE.me := by
      rw [List.map_map]; apply List.map_congr_left; intro x _; simp only [Function.comp]
      split
      · simp [AE.me, AE.val]
      · rfl
    rw [e1]; exact (Below.heap_setCell _ _ _ _ nm).trans ha.mp
  · intro x hx
    obtain ⟨y, hy, rfl⟩ := List.mem_map.1 hx
    by_cases hk : y.key = k
    · have hye : y = e := by
        have hnd : (es.map AE.key).Nodup := by
          have := hok.nk; rw [ha.ab, List.map_map] at this; exact this
        have := map_inj_nodup hnd hy hmem (by rw [hk, hkey]); exact this
      subst hye
      rw [if_pos hk]
      simp only [List.map_set]
      exact hblk.set i.toNat (u64 v)
    · rw [if_neg hk]
      refine (ha.bl y hy).other _ _ fun q => hk ?_
      have := map_inj_nodup ha.nd hy hmem q
      rw [this, hkey]
  · show setW k i.toNat v A.blk = _
    unfold setW; rw [ha.ab, List.map_map, List.map_map]; apply List.map_congr_left; intro x _; simp only [Function.comp]; split <;> simp
  · rw [List.map_map, show (AE.at_ ∘ fun x : AE => if x.key = k then { x with ws := x.ws.set i.toNat v } else x) = AE.at_ from by funext x; simp only [Function.comp]; split <;> rfl]; exact ha.nd
  · intro x hx
    obtain ⟨y, hy, rfl⟩ := List.mem_map.1 hx
    have := he y hy
    split <;> exact this
  · intro k hk; simp [World.setCell]; exact hlt k hk

/-- What an act on a cell that is there does: the footprint stays. -/
def StepR (v : Value) (w : World) (b : Nat) (A' : PA) (F : Nat → Prop) (e : Ending) (w' : World) : Prop := e = .returned v ∧ ArRep w' b A' F ∧ Ext F w w'
theorem Store_ok (w : World) (b : Nat) (A : PA) (F : Nat → Prop) (h : ArRep w b A F) (k i v : Int) (ws : List Int) (hg : A.get k = some ws) (h0 : 0 ≤ i) (h1 : i < ws.length) (v0 : 0 ≤ v) (v1 : v < 18446744073709551616) :
    Calls Tryd.prog 52 #[ptr b, u64 k, i64 i, u64 v] w (StepR (i64 0) w b (A.put k i v) F) := by
  obtain ⟨⟨mb, es, ck, ha, hm, he⟩, hb, hlt, hok⟩ := h
  unfold PA.get at hg; rw [ha.ab] at hg
  obtain ⟨j, e, hf, rfl⟩ := lookW_find (i := 0) hg
  have hc := cell_ok w b A mb es ck ha k i j e hf h0 h1
  have hblk := ha.bl e (AE.find_some hf).2.2.2
  have hcell : w.cell? ⟨e.at_, i.toNat, none⟩ = some (u64 (e.ws.getD i.toNat 0)) := hblk.cell _ _ (by
    rw [List.getElem?_map, List.getD_eq_getElem?_getD, List.getElem?_eq_getElem (by omega)]; rfl)
  have hfr := hblk.frz i.toNat
  have hfin := ArRep.put ha hm he hb hlt hok (i := i) hf v v0 v1
  have hext : Ext F w (w.setCell ⟨e.at_, i.toNat, none⟩ (u64 v)) := (Ext.refl F w).setCell _ _ (.inl (he e (AE.find_some hf).2.2.2))
  generalize e.ws.getD i.toNat 0 = x at hcell
  have hfin' := Lib.hid hfin; have hext' := Lib.hid hext; have hc' := Lib.hid hc
  clear hg hf ha hblk hc hfin hext hok
  go_enter Tryd.func52, Tryd.ntmps52
  go_wp2_with (go_at_call 64; with_reducible refine use_s hc'.out ?_)
  go_ret
  exact ⟨rfl, hfin'.out, hext'.out⟩
def casA (A : PA) (k i o v x : Int) : PA := if x = o then A.put k i v else A
theorem casA_yes {A : PA} {k i o v x : Int} (h : x = o) : casA A k i o v x = A.put k i v := if_pos h
theorem casA_no {A : PA} {k i o v x : Int} (h : x ≠ o) : casA A k i o v x = A := if_neg h
theorem Cas_ok (w : World) (b : Nat) (A : PA) (F : Nat → Prop) (h : ArRep w b A F) (k i o v : Int) (ws : List Int) (hg : A.get k = some ws) (h0 : 0 ≤ i) (h1 : i < ws.length) (v0 : 0 ≤ v) (v1 : v < 18446744073709551616) :
    Calls Tryd.prog 53 #[ptr b, u64 k, i64 i, u64 o, u64 v] w (StepR (.tuple #[u64 (ws.getD i.toNat 0), i64 0]) w b (casA A k i o v (ws.getD i.toNat 0)) F) := by
  have hA := h
  obtain ⟨⟨mb, es, ck, ha, hm, he⟩, hb, hlt, hok⟩ := h
  unfold PA.get at hg; rw [ha.ab] at hg
  obtain ⟨j, e, hf, rfl⟩ := lookW_find (i := 0) hg
  have hc := cell_ok w b A mb es ck ha k i j e hf h0 h1
  have hblk := ha.bl e (AE.find_some hf).2.2.2
  have hcell : w.cell? ⟨e.at_, i.toNat, none⟩ = some (u64 (e.ws.getD i.toNat 0)) := hblk.cell _ _ (by
    rw [List.getElem?_map, List.getD_eq_getElem?_getD, List.getElem?_eq_getElem (by omega)]; rfl)
  have hfr := hblk.frz i.toNat
  have hfin := ArRep.put ha hm he hb hlt hok (i := i) hf v v0 v1
  have hext : Ext F w (w.setCell ⟨e.at_, i.toNat, none⟩ (u64 v)) := (Ext.refl F w).setCell _ _ (.inl (he e (AE.find_some hf).2.2.2))
  generalize e.ws.getD i.toNat 0 = x at hcell
  have hfin' := Lib.hid hfin; have hext' := Lib.hid hext; have hc' := Lib.hid hc; have hA' := Lib.hid hA
  clear hg hf ha hblk hc hfin hext hok hA
  by_cases hx : x = o
  · subst hx
    go_enter Tryd.func53, Tryd.ntmps53
    go_wp2_with (go_at_call 64; with_reducible refine use_s hc'.out ?_)
    go_ret2
    exact ⟨rfl, by rw [casA_yes rfl]; exact hfin'.out, hext'.out⟩
  · have HX := Lib.hid hx
    have hx' : (x == o) = false := by simpa using hx
    clear hx
    go_enter Tryd.func53, Tryd.ntmps53
    go_wp2_with (go_at_call 64; with_reducible refine use_s hc'.out ?_)
    go_ret2
    exact ⟨rfl, by rw [casA_no HX.out]; exact hA'.out, Ext.refl _ _⟩

theorem wrapu (x : Int) (h0 : 0 ≤ x) (h1 : x < 18446744073709551616) : IntKind.u64.wrap x = x := by
  unfold IntKind.wrap; simp [IntKind.bits, IntKind.signed]; omega
def addW (x d : Int) : Int := IntKind.u64.wrap (x + d)
theorem addW_eq (x d : Int) : addW x d = (x + d) % 18446744073709551616 := by
  unfold addW IntKind.wrap; simp [IntKind.bits, IntKind.signed]
theorem Add_ok (w : World) (b : Nat) (A : PA) (F : Nat → Prop) (h : ArRep w b A F) (k i d : Int) (ws : List Int) (hg : A.get k = some ws) (h0 : 0 ≤ i) (h1 : i < ws.length) :
    Calls Tryd.prog 54 #[ptr b, u64 k, i64 i, u64 d] w (StepR (.tuple #[u64 (ws.getD i.toNat 0), i64 0]) w b (A.put k i (addW (ws.getD i.toNat 0) d)) F) := by
  obtain ⟨⟨mb, es, ck, ha, hm, he⟩, hb, hlt, hok⟩ := h
  unfold PA.get at hg; rw [ha.ab] at hg
  obtain ⟨j, e, hf, rfl⟩ := lookW_find (i := 0) hg
  have hc := cell_ok w b A mb es ck ha k i j e hf h0 h1
  have hblk := ha.bl e (AE.find_some hf).2.2.2
  have hcell : w.cell? ⟨e.at_, i.toNat, none⟩ = some (u64 (e.ws.getD i.toNat 0)) := hblk.cell _ _ (by
    rw [List.getElem?_map, List.getD_eq_getElem?_getD, List.getElem?_eq_getElem (by omega)]; rfl)
  have hfr := hblk.frz i.toNat
  generalize e.ws.getD i.toNat 0 = x at hcell
  have hv : 0 ≤ addW x d ∧ addW x d < 18446744073709551616 := by rw [addW_eq]; omega
  have hfin := ArRep.put ha hm he hb hlt hok (i := i) hf (addW x d) hv.1 hv.2
  have hext : Ext F w (w.setCell ⟨e.at_, i.toNat, none⟩ (u64 (addW x d))) := (Ext.refl F w).setCell _ _ (.inl (he e (AE.find_some hf).2.2.2))
  have hfin' := Lib.hid hfin; have hext' := Lib.hid hext; have hc' := Lib.hid hc
  clear hg hf ha hblk hc hfin hext hok hv
  go_enter Tryd.func54, Tryd.ntmps54
  go_wp2_with (go_at_call 64; with_reducible refine use_s hc'.out ?_)
  go_ret2
  exact ⟨rfl, hfin'.out, hext'.out⟩

-- free
def delW (k : Int) : List (Int × List Int) → List (Int × List Int)
  | [] => []
  | p :: l => if k = p.1 then l else p :: delW k l
def PA.free (A : PA) (k : Int) : PA := { A with used := A.used - ((A.get k).getD []).length, blk := delW k A.blk }
theorem delW_sub {k : Int} : ∀ {l : List (Int × List Int)} {p : Int × List Int}, p ∈ delW k l → p ∈ l
  | [], _, h => h
  | q :: l, p, h => by
    simp only [delW] at h
    split at h
    · exact List.mem_cons_of_mem _ h
    · rcases List.mem_cons.1 h with rfl | h
      · exact List.mem_cons_self
      · exact List.mem_cons_of_mem _ (delW_sub h)
theorem delW_nodup {k : Int} : ∀ {l : List (Int × List Int)}, (l.map (·.1)).Nodup → ((delW k l).map (·.1)).Nodup
  | [], _ => by simp [delW]
  | q :: l, h => by
    simp only [List.map_cons, List.nodup_cons] at h
    simp only [delW]
    split
    · exact h.2
    · simp only [List.map_cons, List.nodup_cons]
      exact ⟨fun hm => h.1 (by obtain ⟨p, hp, e⟩ := List.mem_map.1 hm; exact List.mem_map.2 ⟨p, delW_sub hp, e⟩), delW_nodup h.2⟩
theorem totalW_del {k : Int} : ∀ {l : List (Int × List Int)} {ws : List Int}, lookW k l = some ws → totalW (delW k l) = totalW l - ws.length
  | [], _, h => by simp [lookW] at h
  | q :: l, ws, h => by
    simp only [lookW] at h
    simp only [delW]
    by_cases hk : k = q.1
    · rw [if_pos hk] at h ⊢; cases h; simp only [totalW]; omega
    · rw [if_neg hk] at h ⊢; simp only [totalW, totalW_del h]; omega
theorem PA.Ok.free {A : PA} (h : A.Ok) {k : Int} {ws : List Int} (hg : A.get k = some ws) : (A.free k).Ok := by
  have e : (A.free k).used = A.used - ws.length := by simp [PA.free, hg]
  have ht := totalW_del (show lookW k A.blk = some ws from hg)
  refine ⟨h.c0, h.c1, ?_, ?_, h.f0, h.f1, h.l0, h.l1, fun p hp => h.ks p (delW_sub hp), fun p hp => h.ws p (delW_sub hp), delW_nodup h.nk⟩
  · rw [e]; have := h.u1; show _ ≤ A.cells; omega
  · rw [e, h.us]; exact ht.symm
theorem find_del {k : Int} : ∀ {es : List AE} {i j : Nat} {e : AE}, AE.find k es i = some (j, e) → (es.eraseIdx (j - i)).map (fun e => (e.key, e.ws)) = delW k (es.map fun e => (e.key, e.ws))
  | [], _, _, _, h => by simp [AE.find] at h
  | x :: es, i, j, e, h => by
    have h0 := AE.find_some h
    simp only [AE.find] at h
    simp only [List.map_cons, delW]
    by_cases hk : k = x.key
    · rw [if_pos hk] at h ⊢; simp only [Option.some.injEq, Prod.mk.injEq] at h; obtain ⟨rfl, rfl⟩ := h; simp
    · rw [if_neg hk] at h ⊢
      have h1 := (AE.find_some h).1
      rw [show j - i = (j - (i + 1)) + 1 by omega]
      simp only [List.eraseIdx_cons_succ, List.map_cons, find_del h]
theorem Ext.putObj {S : Nat → Prop} {a w : World} (h : Ext S a w) (r : Nat) (o : Obj) (hr : S r ∨ a.heap.size ≤ r) : Ext S a (w.putObj r o) :=
  h.trans' (T := fun i => i = r) ⟨rfl, rfl, rfl, by simp, fun _ _ hs => World.putObj_heap_other hs⟩ (fun _ h => h ▸ hr)
theorem Blk.putObj {w : World} {b : Nat} {cs : List Value} {T : TypeId} (h : Blk w b cs T) (r : Nat) (o : Obj) (hr : b ≠ r) : Blk (w.putObj r o) b cs T := (World.putObj_heap_other hr).trans h
theorem eraseIdx_map' {α β : Type} (f : α → β) : ∀ (l : List α) (i : Nat), (l.map f).eraseIdx i = (l.eraseIdx i).map f
  | [], _ => rfl
  | _ :: _, 0 => rfl
  | x :: l, i + 1 => by simp [eraseIdx_map' f l i]
theorem run_del (w : World) (mb : Nat) (es : List AE) (ck : Nat) (h : w.heap[mb]? = some (.map (es.map AE.me).toArray ck)) (k : Int) (j : Nat) (e : AE) (hf : AE.find k es 0 = some (j, e)) (ty : TypeId) :
    (Builtin.delete_ #[137, 27] ty #[.map (some mb), u64 k]).run Tryd.prog w =
      .ok (.tuple #[]) (w.putObj mb (.map ((es.eraseIdx j).map AE.me).toArray ck)) := by
  have h1 := findNow_ae k es 0
  have hf' := MapKept.run_findKey (P := Tryd.prog) (w := w) Tryd.underlying27 h1
  rw [hf] at hf'
  simp [Builtin.delete_, run_underlying Tryd.underlying137, MapKept.run_getObj_map h, MapKept.run_checkKey Tryd.underlying27 (isKey_u64 k), hf', MapKept.run_setObj_map _ h, Result.andThen, eraseIdx_map', World.putObj]
theorem Free_ok (w : World) (b : Nat) (A : PA) (F : Nat → Prop) (h : ArRep w b A F) (k : Int) (ws : List Int) (hg0 : A.get k = some ws) :
    Calls Tryd.prog 55 #[ptr b, u64 k] w (StepR (i64 0) w b (A.free k) F) := by
  obtain ⟨⟨mb, es, ck, ha, hm, he⟩, hb, hlt, hok⟩ := h
  have hg := hg0
  unfold PA.get at hg; rw [ha.ab] at hg
  obtain ⟨j, e, hf, hws⟩ := lookW_find (i := 0) hg
  have hlook := run_look w mb es ck ha.mp k
  rw [hf] at hlook
  simp only [Option.map_some, Option.getD_some, Option.isSome_some, AE.val, hws] at hlook
  have nb : mb ≠ b := fun q => by
    have h1 := ha.mp; have h2 := ha.hd; rw [q] at h1
    unfold Blk at h2; rw [h1] at h2; cases h2
  have hlen : (ws.length : Int) ≤ A.used := by
    have hmem : (k, ws) ∈ A.blk := by
      rw [ha.ab]; refine List.mem_map.2 ⟨e, (AE.find_some hf).2.2.2, ?_⟩; rw [(AE.find_some hf).2.2.1, hws]
    rw [hok.us]; exact totalW_mem hmem
  have u1 := hok.u1; have c1 := hok.c1
  have hfree : A.free k = { A with used := A.used - ws.length, blk := delW k A.blk } := by simp [PA.free, hg0]
  have hc := none_c w b A mb ha.c
  obtain ⟨_, hfr, c0, c1', c2, c3, c4⟩ := ha.c
  have hmp1 : (w.setCell ⟨b, 1, none⟩ (i64 (A.used - ws.length))).heap[mb]? = some (.map (es.map AE.me).toArray ck) := (Below.heap_setCell _ _ _ _ nb).trans ha.mp
  have hdel := run_del _ mb es ck hmp1 k j e hf
  have hfin : ArRep ((w.setCell ⟨b, 1, none⟩ (i64 (A.used - ws.length))).putObj mb (.map ((es.eraseIdx j).map AE.me).toArray ck)) b (A.free k) F := by
    refine ⟨⟨mb, es.eraseIdx j, ck, ⟨?_, ?_, ?_, ?_, ?_⟩, hm, fun x hx => he x (List.mem_of_mem_eraseIdx hx)⟩, hb, ?_, hok.free hg0⟩
    · rw [hfree]; exact (ha.hd.set 1 (i64 (A.used - ws.length))).putObj _ _ nb.symm
    · exact World.putObj_heap_same (by simp [World.setCell]; exact hlt _ hm)
    · intro x hx
      have hx' := List.mem_of_mem_eraseIdx hx
      refine ((ha.bl x hx').other _ _ fun q => ?_).putObj _ _ fun q => ?_
      · have h1 := ha.hd; have h2 := ha.bl x hx'; rw [q] at h2
        unfold Blk at h1 h2; rw [h1] at h2; have := (Obj.cells.inj (Option.some.inj h2)).2.1; exact absurd this (by decide)
      · have h1 := ha.mp; have h2 := ha.bl x hx'; rw [q] at h2
        unfold Blk at h2; rw [h1] at h2; cases h2
    · rw [hfree]; show delW k A.blk = _; rw [ha.ab]; simpa using (find_del hf).symm
    · exact (List.Sublist.map AE.at_ (List.eraseIdx_sublist es j)).nodup ha.nd
    · intro k hk; simp [World.setCell]; exact hlt k hk
  have hext : Ext F w ((w.setCell ⟨b, 1, none⟩ (i64 (A.used - ws.length))).putObj mb (.map ((es.eraseIdx j).map AE.me).toArray ck)) :=
    ((Ext.refl F w).setCell _ _ (.inl hb)).putObj _ _ (.inl hm)
  have used0 := hok.used0
  generalize ws.length = n at *
  have hfin' := Lib.hid hfin; have hext' := Lib.hid hext; have hc' := Lib.hid hc
  clear hg hg0 hf ha hc hfin hext hok hws hfree hmp1 he hm hlt
  go_enter Tryd.func55, Tryd.ntmps55
  go_wp2_with (go_at_call 73; with_reducible refine use_s hc'.out ?_)
  go_ret
  exact ⟨rfl, hfin'.out, hext'.out⟩

theorem Alloc_no (w : World) (b : Nat) (A : PA) (F : Nat → Prop) (h : ArRep w b A F) (n : Int) (h1 : 1 ≤ n) (h2 : A.cells - A.used < n) (h3 : n < 1000000) :
    Calls Tryd.prog 47 #[ptr b, i64 n] w (RetD (u64 0) w) := by
  obtain ⟨⟨mb, es, ck, ha, hm, he⟩, hb, hlt, hok⟩ := h
  have u0 := hok.used0; have u1 := hok.u1; have c1 := hok.c1
  have hc := ha.c
  obtain ⟨_, hfr, c0, c1', c2, c3, c4⟩ := ha.c
  have d1 : decide (n < 1) = false := by simp; omega
  have hc' := Lib.hid hc
  clear ha hc hok he hm hlt
  go_enter Tryd.func47, Tryd.ntmps47
  go_wp2_with fail
  go_quiet ((go_at_call 73; exact Calls.quiet_of_same (RetS.same (none_c _ _ _ _ hc'.out))))
  go_wp2
  go_ret
  exact ⟨rfl, _, rfl⟩

def PA.alloc (A : PA) (n : Int) : PA := { A with used := A.used + n, last := A.last + 1, blk := A.blk ++ [(A.last + 1, List.replicate n.toNat 0)] }
theorem putObj_cell (w : World) (r b i : Nat) (o : Obj) (h : b ≠ r) : (w.putObj r o).cell? ⟨b, i, none⟩ = w.cell? ⟨b, i, none⟩ := by
  simp only [World.cell?, World.putObj_heap_other h]
theorem infoU : (Tryd.prog.info? 27).map (fun i => (i.zero, i.size, i.bytes)) = some (some (.int .u64 0), 1, 8) := by kernel_rfl
theorem madeU (m : Nat) : madeCells #[u64 0] m = ((List.replicate m (0 : Int)).map u64).toArray := by
  apply Array.ext'; simp [toList_madeCells_one]
theorem run_up (w : World) (mb : Nat) (es : List AE) (ck : Nat) (h : w.heap[mb]? = some (.map (es.map AE.me).toArray ck)) (k : Int) (hf : AE.find k es 0 = none) (v : Value) :
    (Instr.mapUpdate 137 (.map (some mb)) (u64 k) v).run Tryd.prog w = .ok () (w.putObj mb (.map ((es.map AE.me ++ [({ key := u64 k, val := v, born := ck } : MapEntry)]).toArray) (ck + 1))) := by
  have h1 := findNow_ae k es 0
  have hf' := MapKept.run_findKey (P := Tryd.prog) (w := w) Tryd.underlying27 h1
  rw [hf] at hf'
  simp [Instr.mapUpdate, run_underlying Tryd.underlying137, MapKept.run_getObj_map h, MapKept.run_checkKey Tryd.underlying27 (isKey_u64 k), hf', MapKept.run_setObj_map _ h, Result.andThen, World.putObj]
theorem PA.Ok.alloc {A : PA} (h : A.Ok) {n : Nat} (h1 : 1 ≤ n) (h2 : (n : Int) ≤ A.cells - A.used) (hl : A.last < 999999999999) : (A.alloc n).Ok := by
  have l0 := h.l0
  refine ⟨h.c0, h.c1, ?_, ?_, h.f0, h.f1, ?_, ?_, ?_, ?_, ?_⟩
  · simp only [PA.alloc]; omega
  · simp only [PA.alloc, totalW_append, totalW, ← h.us]; simp
  · simp only [PA.alloc]; omega
  · simp only [PA.alloc]; omega
  · intro p hp
    simp only [PA.alloc, List.mem_append, List.mem_singleton] at hp
    rcases hp with hp | rfl
    · have := h.ks p hp; simp only [PA.alloc]; omega
    · simp only [PA.alloc]; simp; omega
  · intro p hp x hx
    simp only [PA.alloc, List.mem_append, List.mem_singleton] at hp
    rcases hp with hp | rfl
    · exact h.ws p hp x hx
    · simp at hx; omega
  · simp only [PA.alloc, List.map_append, List.map_cons, List.map_nil]
    rw [List.nodup_append]
    refine ⟨h.nk, by simp, ?_⟩
    intro a ha b hb
    obtain ⟨p, hp, rfl⟩ := List.mem_map.1 ha
    have := h.ks p hp
    simp only [List.mem_singleton] at hb; omega
/-- The world behind Alloc. -/
def allocW (w : World) (b : Nat) (A : PA) (mb : Nat) (es : List AE) (ck m nq : Nat) : World :=
  ((((((w.drewN nq).setCell ⟨b, 3, none⟩ (u64 (A.last + 1))).setCell ⟨b, 1, none⟩ (i64 (A.used + m)))).alloc (.cells (madeCells #[u64 0] m) 27)).drew).putObj mb
    (.map (es.map AE.me ++ [({ key := u64 (A.last + 1), val := .slice (some ⟨w.heap.size, 0, none⟩) m m, born := ck } : MapEntry)]).toArray (ck + 1))
theorem allocW_rep (w : World) (b : Nat) (A : PA) (F : Nat → Prop) (mb : Nat) (es : List AE) (ck : Nat) (ha : ArAt w b A mb es ck) (hm : F mb) (he : ∀ e ∈ es, F e.at_) (hb : F b) (hlt : ∀ k, F k → k < w.heap.size) (hok : A.Ok)
    (m nq : Nat) (h1 : 1 ≤ m) (h2 : (m : Int) ≤ A.cells - A.used) (hl : A.last < 999999999999) :
    ArRep (allocW w b A mb es ck m nq) b (A.alloc m) (grow F w (allocW w b A mb es ck m nq)) ∧ Ext F w (allocW w b A mb es ck m nq) := by
  have hsz : (allocW w b A mb es ck m nq).heap.size = w.heap.size + 1 := by simp [allocW, World.setCell]
  have nb : mb ≠ b := fun q => by
    have h1 := ha.mp; have h2 := ha.hd; rw [q] at h1
    unfold Blk at h2; rw [h1] at h2; cases h2
  have hmlt := hlt _ hm
  have hblt := hlt _ hb
  refine ⟨⟨⟨mb, es ++ [⟨A.last + 1, w.heap.size, List.replicate m 0, ck⟩], ck + 1, ⟨?_, ?_, ?_, ?_, ?_⟩, .inl hm, ?_⟩, .inl hb, ?_, hok.alloc h1 h2 hl⟩, ?_⟩
  · have := ((((ha.hd.drewN nq).set 3 (u64 (A.last + 1))).set 1 (i64 (A.used + m))).alloc (.cells (madeCells #[u64 0] m) 27)).drew.putObj mb (.map (es.map AE.me ++ [({ key := u64 (A.last + 1), val := .slice (some ⟨w.heap.size, 0, none⟩) m m, born := ck } : MapEntry)]).toArray (ck + 1)) nb.symm
    exact this
  · refine (World.putObj_heap_same (by simp [World.setCell]; omega)).trans ?_
    simp [AE.me, AE.val]
  · intro x hx
    rcases List.mem_append.1 hx with hx | hx
    · have n1 : x.at_ ≠ b := fun q => by
        have h1 := ha.hd; have h2 := ha.bl x hx; rw [q] at h2
        unfold Blk at h1 h2; rw [h1] at h2; have := (Obj.cells.inj (Option.some.inj h2)).2.1; exact absurd this (by decide)
      have n2 : x.at_ ≠ mb := fun q => by
        have h1 := ha.mp; have h2 := ha.bl x hx; rw [q] at h2
        unfold Blk at h2; rw [h1] at h2; cases h2
      exact (((((ha.bl x hx).drewN nq).other ⟨b, 3, none⟩ _ n1).other ⟨b, 1, none⟩ _ n1).alloc _).drew.putObj _ _ n2
    · simp only [List.mem_singleton] at hx
      subst hx
      have hsz2 : (((w.drewN nq).setCell ⟨b, 3, none⟩ (u64 (A.last + 1))).setCell ⟨b, 1, none⟩ (i64 (A.used + m))).heap.size = w.heap.size := by simp [World.setCell]
      have := Blk.new (((w.drewN nq).setCell ⟨b, 3, none⟩ (u64 (A.last + 1))).setCell ⟨b, 1, none⟩ (i64 (A.used + m))) ((List.replicate m (0 : Int)).map u64) 27
      rw [hsz2, ← madeU] at this
      exact this.drew.putObj _ _ (by simp; omega)
  · show A.blk ++ _ = _
    rw [ha.ab]; simp
  · rw [List.map_append, List.nodup_append]
    refine ⟨ha.nd, by simp, ?_⟩
    intro a ha' c hc
    obtain ⟨x, hx, rfl⟩ := List.mem_map.1 ha'
    have := hlt _ (he x hx)
    simp at hc; omega
  · intro x hx
    rcases List.mem_append.1 hx with hx | hx
    · exact .inl (he x hx)
    · simp only [List.mem_singleton] at hx; subst hx; exact .inr ⟨Nat.le_refl _, by rw [hsz]; simp⟩
  · exact grow.lt hlt (by rw [hsz]; omega)
  · exact ((((((Ext.refl F w).drewN nq).setCell ⟨b, 3, none⟩ _ (.inl hb)).setCell ⟨b, 1, none⟩ _ (.inl hb)).alloc _).drew).putObj _ _ (.inl hm)
theorem Alloc_ok (w : World) (b : Nat) (A : PA) (F : Nat → Prop) (h : ArRep w b A F) (n : Int) (h1 : 1 ≤ n) (h2 : n ≤ A.cells - A.used) (hl : A.last < 999999999999) :
    Calls Tryd.prog 47 #[ptr b, i64 n] w fun e w' => e = .returned (u64 (A.last + 1)) ∧ ArRep w' b (A.alloc n) (grow F w w') ∧ Ext F w w' := by
  obtain ⟨⟨mb, es, ck, ha, hm, he⟩, hb, hlt, hok⟩ := h
  obtain ⟨m, rfl⟩ := Int.eq_ofNat_of_zero_le (show 0 ≤ n by omega)
  have u0 := hok.used0; have u1 := hok.u1; have c1 := hok.c1; have l0 := hok.l0
  have hc := ha.c
  obtain ⟨hbs, hfr, c0, c1', c2, c3, c4⟩ := ha.c
  have d1 : decide ((m : Int) < 1) = false := by simp; omega
  have d2 : decide (A.cells - A.used < (m : Int)) = false := by simp; omega
  have hfin := fun nq => allocW_rep w b A F mb es ck ha hm he hb hlt hok m nq (by omega) h2 hl
  have hnew : AE.find (A.last + 1) es 0 = none := AE.find_none.2 fun e hx q => by
    have := hok.ks (e.key, e.ws) (by rw [ha.ab]; exact List.mem_map.2 ⟨e, hx, rfl⟩)
    simp only at this; omega
  have nb : mb ≠ b := fun q => by
    have h1 := ha.mp; have h2 := ha.hd; rw [q] at h1
    unfold Blk at h2; rw [h1] at h2; cases h2
  have hup := fun nq => run_up ((((((w.drewN nq).setCell ⟨b, 3, none⟩ (u64 (A.last + 1))).setCell ⟨b, 1, none⟩ (i64 (A.used + m)))).alloc (.cells (madeCells #[u64 0] m) 27)).drew) mb es ck
    ((Below.heap_alloc _ _ _ (by simp [World.setCell]; exact hlt _ hm)).trans ((Below.heap_setCell _ _ _ _ nb).trans ((Below.heap_setCell _ _ _ _ nb).trans ha.mp))) (A.last + 1) hnew (.slice (some ⟨w.heap.size, 0, none⟩) m m)
  have hmk := run_make_row' (P := Tryd.prog) 75 27 (u64 0) 8 Tryd.underlying75 infoU rfl .i64 .i64 m (by omega) (by omega)
  have hbw := fun nq => ((ha.hd.drewN nq).set 3 (u64 (A.last + 1))).set 1 (i64 (A.used + m))
  have hc' := Lib.hid hc; have hup' := Lib.hid hup; have hfin' := Lib.hid hfin; have hbw' := Lib.hid hbw
  clear ha hc hok he hm hlt hup hfin hnew hbw
  go_enter Tryd.func47, Tryd.ntmps47
  go_wp2_with fail
  go_quiet ((go_at_call 73; exact Calls.quiet_of_same (RetS.same (none_c _ _ _ _ hc'.out))))
  go_wp2
  generalize hW : (((w.drewN nq).setCell ⟨b, 3, none⟩ (u64 (A.last + 1))).setCell ⟨b, 1, none⟩ (i64 (A.used + m))) = W
  have hs : W.heap.size = w.heap.size := by rw [← hW]; simp [World.setCell]
  have hup1 := hup'.out nq
  have hfin1 := hfin'.out nq
  have hbw1 := hbw'.out nq
  unfold allocW at hfin1
  rw [hW] at hup1 hfin1 hbw1
  have e3 : W.cell? ⟨b, 3, none⟩ = some (u64 (A.last + 1)) := hbw1.cell 3 _ rfl
  have e4 : W.cell? ⟨b, 4, none⟩ = some (.map (some mb)) := hbw1.cell 4 _ rfl
  have hfin2 := Lib.hid hfin1
  have hput := fun (W : World) (i : Nat) (o : Obj) => putObj_cell W mb b i o nb.symm
  have hbW : b ≠ W.heap.size := by rw [hs]; omega
  clear hW hup' hfin' hbw' c0 c1' c2 c3 c4 hfin1 hbw1
  go_region_held3 (fun w' => w'.cell? ⟨b, 3, none⟩ = some (u64 (A.last + 1)) ∧ w'.cell? ⟨b, 4, none⟩ = some (.map (some mb))) (go_keep) (fail)
  go_wp2
  go_ret
  exact ⟨rfl, hfin2.out⟩
end Go.Proofs.YtlbphffnbhoghaaDoor
