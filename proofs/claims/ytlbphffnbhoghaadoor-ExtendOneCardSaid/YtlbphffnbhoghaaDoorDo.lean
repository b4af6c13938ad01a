/- What an act does to the arena. -/
import Derived.Test.YtlbphffnbhoghaaDoorArena
namespace Go.Proofs.YtlbphffnbhoghaaDoor
open Go.RowKit
set_option maxRecDepth 100000
set_option linter.unusedVariables false
set_option linter.unusedSimpArgs false

/-- Is there such a cell? -/
def PA.has (A : PA) (k i : Int) : Prop := ∃ ws, A.get k = some ws ∧ 0 ≤ i ∧ i < ws.length
def PA.rd (A : PA) (k i : Int) : Int := ((A.get k).getD []).getD i.toNat 0
theorem PA.rd_eq {A : PA} {k i : Int} {ws : List Int} (h : A.get k = some ws) : A.rd k i = ws.getD i.toNat 0 := by simp [PA.rd, h]
/-- The act may be, and touches what is there. -/
def Valid (A : PA) (a : AV) : Prop := a.Ok ∧ (a.kind ≤ 4 → A.has a.block a.cell) ∧ (a.kind = 5 → A.last < 999999999999 ∧ a.cell < 1000000) ∧ (a.kind = 6 → (A.get a.block).isSome)
def roomy (A : PA) (n : Int) : Bool := decide (n ≤ A.cells - A.used)
def doA (A : PA) (a : AV) : PA :=
  if a.kind = 2 then A.put a.block a.cell a.new
  else if a.kind = 3 then casA A a.block a.cell a.old a.new (A.rd a.block a.cell)
  else if a.kind = 4 then A.put a.block a.cell (addW (A.rd a.block a.cell) a.new)
  else if a.kind = 5 then (if roomy A a.cell then A.alloc a.cell else A)
  else if a.kind = 6 then A.free a.block
  else A
def doG (A : PA) (a : AV) : Int :=
  if a.kind = 1 ∨ a.kind = 3 ∨ a.kind = 4 then A.rd a.block a.cell
  else if a.kind = 5 then (if roomy A a.cell then A.last + 1 else 0)
  else 0
/-- How a call on the arena leaves it. -/
def DoR (v : Value) (w : World) (b : Nat) (A' : PA) (F : Nat → Prop) (e : Ending) (w' : World) : Prop := e = .returned v ∧ ArRep w' b A' (grow F w w') ∧ Ext F w w'
theorem ArRep.mono {w : World} {b : Nat} {A : PA} {F G : Nat → Prop} (h : ArRep w b A F) (hG : ∀ k, F k → G k) (hlt : ∀ k, G k → k < w.heap.size) : ArRep w b A G := by
  obtain ⟨⟨mb, es, ck, ha, hm, he⟩, hb, _, hok⟩ := h
  exact ⟨⟨mb, es, ck, ha, hG _ hm, fun x hx => hG _ (he x hx)⟩, hG _ hb, hlt, hok⟩
theorem ArRep.lt {w : World} {b : Nat} {A : PA} {F : Nat → Prop} (h : ArRep w b A F) : ∀ k, F k → k < w.heap.size := h.2.2.1
theorem ArRep.ok {w : World} {b : Nat} {A : PA} {F : Nat → Prop} (h : ArRep w b A F) : A.Ok := h.2.2.2
theorem ArRep.b {w : World} {b : Nat} {A : PA} {F : Nat → Prop} (h : ArRep w b A F) : F b := h.2.1
/-- From the world w1 on, w1 being w with new blocks. -/
theorem DoR.of {w w1 w2 : World} {b : Nat} {A' : PA} {F G : Nat → Prop} {v : Value} (e1 : Ext (fun _ => False) w w1) (hlt : ∀ k, F k → k < w.heap.size) (hr : ArRep w2 b A' G) (hG : ∀ k, G k → grow F w w2 k) (e2 : Ext F w1 w2) : DoR v w b A' F (.returned v) w2 :=
  ⟨rfl, hr.mono hG (grow.lt hlt (Nat.le_trans e1.size e2.size)), (e1.mono fun _ _ h => h.elim).trans e2⟩

theorem Do_load (w : World) (b : Nat) (A : PA) (F : Nat → Prop) (h : ArRep w b A F) (k i : Int) (hok : (aLoad k i).Ok) (hh : A.has k i) :
    Calls Tryd.prog 14 #[ptr b, .agg (aLoad k i).vals.toArray] w (DoR (u64 (A.rd k i)) w b A F) := by
  obtain ⟨ws, hg, h0, h1⟩ := hh
  rw [PA.rd_eq hg]
  have hR := fun W => act_Right_c W (aLoad k i) hok
  have hL := fun W (hA : ArRep W b A F) => Load_ok W b A F hA k i ws hg h0 h1
  generalize ws.getD i.toNat 0 = v at hL ⊢
  have h' := Lib.hid h; have hR' := Lib.hid hR; have hL' := Lib.hid hL
  clear h hR hL hok hg h1 h0
  simp only [aLoad, AV.vals] at *
  go_enter Tryd.func14, Tryd.ntmps14
  go_wp2_with (first
    | (go_at_call 51; refine use_n (hR'.out _) (fun w1 hw1 => ?_); obtain ⟨hlt1, hf1, hc1⟩ := ((Blk.new w [i64 1, u64 k, i64 i, u64 0, u64 0] 40).ext hw1 id).open_; simp only [CellsAt, Nat.reduceAdd] at hc1; have hw1' := Lib.hid hw1; clear hw1)
    | (go_at_call 19; refine use_s (hL'.out _ (h'.out.ext (((Ext.refl (fun _ => False) w).alloc _).trans hw1'.out) (fun _ _ h => h))) ?_))
  go_ret
  have e1 := ((Ext.refl (fun _ => False) w).alloc _).trans hw1'.out
  exact DoR.of e1 h'.out.lt (h'.out.ext e1 (fun _ _ h => h)) (fun _ h => .inl h) (Ext.refl _ _)
theorem Do_store (w : World) (b : Nat) (A : PA) (F : Nat → Prop) (h : ArRep w b A F) (k i v : Int) (hok : (aStore k i v).Ok) (hh : A.has k i) :
    Calls Tryd.prog 14 #[ptr b, .agg (aStore k i v).vals.toArray] w (DoR (u64 0) w b (A.put k i v) F) := by
  obtain ⟨ws, hg, h0, h1⟩ := hh
  have hR := fun W => act_Right_c W (aStore k i v) hok
  have hL := fun W (hA : ArRep W b A F) => Store_ok W b A F hA k i v ws hg h0 h1 hok.1.2.2.2.2.1 hok.1.2.2.2.2.2.1
  have h' := Lib.hid h; have hR' := Lib.hid hR; have hL' := Lib.hid hL
  clear h hR hL hok hg h1 h0
  simp only [aStore, AV.vals] at *
  go_enter Tryd.func14, Tryd.ntmps14
  go_wp2_with (first
    | (go_at_call 51; refine use_n (hR'.out _) (fun w1 hw1 => ?_); obtain ⟨hlt1, hf1, hc1⟩ := ((Blk.new w [i64 2, u64 k, i64 i, u64 0, u64 v] 40).ext hw1 id).open_; simp only [CellsAt, Nat.reduceAdd] at hc1; have hw1' := Lib.hid hw1; clear hw1)
    | (go_at_call 52; refine (hL'.out _ (h'.out.ext (((Ext.refl (fun _ => False) w).alloc _).trans hw1'.out) (fun _ _ h => h))).mono ?_; rintro e w2 ⟨rfl, hr2, he2⟩; have hr2' := Lib.hid hr2; have he2' := Lib.hid he2; clear hr2 he2))
  go_ret
  have e1 := ((Ext.refl (fun _ => False) w).alloc _).trans hw1'.out
  exact DoR.of e1 h'.out.lt hr2'.out (fun _ h => .inl h) he2'.out
theorem Do_cas (w : World) (b : Nat) (A : PA) (F : Nat → Prop) (h : ArRep w b A F) (k i o v : Int) (hok : (aCas k i o v).Ok) (hh : A.has k i) :
    Calls Tryd.prog 14 #[ptr b, .agg (aCas k i o v).vals.toArray] w (DoR (u64 (A.rd k i)) w b (casA A k i o v (A.rd k i)) F) := by
  obtain ⟨ws, hg, h0, h1⟩ := hh
  rw [PA.rd_eq hg]
  have hR := fun W => act_Right_c W (aCas k i o v) hok
  have hL := fun W (hA : ArRep W b A F) => Cas_ok W b A F hA k i o v ws hg h0 h1 hok.1.2.2.2.2.1 hok.1.2.2.2.2.2.1
  generalize ws.getD i.toNat 0 = x at hL ⊢
  have h' := Lib.hid h; have hR' := Lib.hid hR; have hL' := Lib.hid hL
  clear h hR hL hok hg h1 h0
  simp only [aCas, AV.vals] at *
  go_enter Tryd.func14, Tryd.ntmps14
  go_wp2_with (first
    | (go_at_call 51; refine use_n (hR'.out _) (fun w1 hw1 => ?_); obtain ⟨hlt1, hf1, hc1⟩ := ((Blk.new w [i64 3, u64 k, i64 i, u64 o, u64 v] 40).ext hw1 id).open_; simp only [CellsAt, Nat.reduceAdd] at hc1; have hw1' := Lib.hid hw1; clear hw1)
    | (go_at_call 53; refine (hL'.out _ (h'.out.ext (((Ext.refl (fun _ => False) w).alloc _).trans hw1'.out) (fun _ _ h => h))).mono ?_; rintro e w2 ⟨rfl, hr2, he2⟩; have hr2' := Lib.hid hr2; have he2' := Lib.hid he2; clear hr2 he2))
  go_ret
  have e1 := ((Ext.refl (fun _ => False) w).alloc _).trans hw1'.out
  exact DoR.of e1 h'.out.lt hr2'.out (fun _ h => .inl h) he2'.out
theorem Do_add (w : World) (b : Nat) (A : PA) (F : Nat → Prop) (h : ArRep w b A F) (k i v : Int) (hok : (aAdd k i v).Ok) (hh : A.has k i) :
    Calls Tryd.prog 14 #[ptr b, .agg (aAdd k i v).vals.toArray] w (DoR (u64 (A.rd k i)) w b (A.put k i (addW (A.rd k i) v)) F) := by
  obtain ⟨ws, hg, h0, h1⟩ := hh
  rw [PA.rd_eq hg]
  have hR := fun W => act_Right_c W (aAdd k i v) hok
  have hL := fun W (hA : ArRep W b A F) => Add_ok W b A F hA k i v ws hg h0 h1
  generalize ws.getD i.toNat 0 = x at hL ⊢
  have h' := Lib.hid h; have hR' := Lib.hid hR; have hL' := Lib.hid hL
  clear h hR hL hok hg h1 h0
  simp only [aAdd, AV.vals] at *
  go_enter Tryd.func14, Tryd.ntmps14
  go_wp2_with (first
    | (go_at_call 51; refine use_n (hR'.out _) (fun w1 hw1 => ?_); obtain ⟨hlt1, hf1, hc1⟩ := ((Blk.new w [i64 4, u64 k, i64 i, u64 0, u64 v] 40).ext hw1 id).open_; simp only [CellsAt, Nat.reduceAdd] at hc1; have hw1' := Lib.hid hw1; clear hw1)
    | (go_at_call 54; refine (hL'.out _ (h'.out.ext (((Ext.refl (fun _ => False) w).alloc _).trans hw1'.out) (fun _ _ h => h))).mono ?_; rintro e w2 ⟨rfl, hr2, he2⟩; have hr2' := Lib.hid hr2; have he2' := Lib.hid he2; clear hr2 he2))
  go_ret
  have e1 := ((Ext.refl (fun _ => False) w).alloc _).trans hw1'.out
  exact DoR.of e1 h'.out.lt hr2'.out (fun _ h => .inl h) he2'.out
theorem Do_free (w : World) (b : Nat) (A : PA) (F : Nat → Prop) (h : ArRep w b A F) (k : Int) (hok : (aFree k).Ok) (ws : List Int) (hg : A.get k = some ws) :
    Calls Tryd.prog 14 #[ptr b, .agg (aFree k).vals.toArray] w (DoR (u64 0) w b (A.free k) F) := by
  have hR := fun W => act_Right_c W (aFree k) hok
  have hL := fun W (hA : ArRep W b A F) => Free_ok W b A F hA k ws hg
  have h' := Lib.hid h; have hR' := Lib.hid hR; have hL' := Lib.hid hL
  clear h hR hL hok hg
  simp only [aFree, AV.vals] at *
  go_enter Tryd.func14, Tryd.ntmps14
  go_wp2_with (first
    | (go_at_call 51; refine use_n (hR'.out _) (fun w1 hw1 => ?_); obtain ⟨hlt1, hf1, hc1⟩ := ((Blk.new w [i64 6, u64 k, i64 0, u64 0, u64 0] 40).ext hw1 id).open_; simp only [CellsAt, Nat.reduceAdd] at hc1; have hw1' := Lib.hid hw1; clear hw1)
    | (go_at_call 55; refine (hL'.out _ (h'.out.ext (((Ext.refl (fun _ => False) w).alloc _).trans hw1'.out) (fun _ _ h => h))).mono ?_; rintro e w2 ⟨rfl, hr2, he2⟩; have hr2' := Lib.hid hr2; have he2' := Lib.hid he2; clear hr2 he2))
  go_ret
  have e1 := ((Ext.refl (fun _ => False) w).alloc _).trans hw1'.out
  exact DoR.of e1 h'.out.lt hr2'.out (fun _ h => .inl h) he2'.out
theorem Do_alloc (w : World) (b : Nat) (A : PA) (F : Nat → Prop) (h : ArRep w b A F) (n : Int) (hok : (aAlloc n).Ok) (h1 : 1 ≤ n) (h2 : n ≤ A.cells - A.used) (hl : A.last < 999999999999) :
    Calls Tryd.prog 14 #[ptr b, .agg (aAlloc n).vals.toArray] w (DoR (u64 (A.last + 1)) w b (A.alloc n) F) := by
  have hR := fun W => act_Right_c W (aAlloc n) hok
  have hL := fun W (hA : ArRep W b A F) => Alloc_ok W b A F hA n h1 h2 hl
  have h' := Lib.hid h; have hR' := Lib.hid hR; have hL' := Lib.hid hL
  clear h hR hL hok hl
  simp only [aAlloc, AV.vals] at *
  go_enter Tryd.func14, Tryd.ntmps14
  go_wp2_with (first
    | (go_at_call 51; refine use_n (hR'.out _) (fun w1 hw1 => ?_); obtain ⟨hlt1, hf1, hc1⟩ := ((Blk.new w [i64 5, u64 0, i64 n, u64 0, u64 0] 40).ext hw1 id).open_; simp only [CellsAt, Nat.reduceAdd] at hc1; have hw1' := Lib.hid hw1; clear hw1)
    | (go_at_call 47; refine (hL'.out _ (h'.out.ext (((Ext.refl (fun _ => False) w).alloc _).trans hw1'.out) (fun _ _ h => h))).mono ?_; rintro e w2 ⟨rfl, hr2, he2⟩; have hr2' := Lib.hid hr2; have he2' := Lib.hid he2; clear hr2 he2))
  go_ret
  have e1 := ((Ext.refl (fun _ => False) w).alloc _).trans hw1'.out
  exact DoR.of e1 h'.out.lt hr2'.out (fun k hk => hk.elim .inl fun q => .inr ⟨Nat.le_trans e1.size q.1, q.2⟩) he2'.out
theorem Do_alloc0 (w : World) (b : Nat) (A : PA) (F : Nat → Prop) (h : ArRep w b A F) (n : Int) (hok : (aAlloc n).Ok) (h1 : 1 ≤ n) (h2 : A.cells - A.used < n) (h3 : n < 1000000) :
    Calls Tryd.prog 14 #[ptr b, .agg (aAlloc n).vals.toArray] w (DoR (u64 0) w b A F) := by
  have hR := fun W => act_Right_c W (aAlloc n) hok
  have hL := fun W (hA : ArRep W b A F) => Alloc_no W b A F hA n h1 h2 h3
  have h' := Lib.hid h; have hR' := Lib.hid hR; have hL' := Lib.hid hL
  clear h hR hL hok 
  simp only [aAlloc, AV.vals] at *
  go_enter Tryd.func14, Tryd.ntmps14
  go_wp2_with (first
    | (go_at_call 51; refine use_n (hR'.out _) (fun w1 hw1 => ?_); obtain ⟨hlt1, hf1, hc1⟩ := ((Blk.new w [i64 5, u64 0, i64 n, u64 0, u64 0] 40).ext hw1 id).open_; simp only [CellsAt, Nat.reduceAdd] at hc1; have hw1' := Lib.hid hw1; clear hw1)
    | (go_at_call 47; refine use_d (hL'.out _ (h'.out.ext (((Ext.refl (fun _ => False) w).alloc _).trans hw1'.out) (fun _ _ h => h))) (fun nq => ?_)))
  go_ret
  have e1 := ((Ext.refl (fun _ => False) w).alloc _).trans hw1'.out
  exact DoR.of e1 h'.out.lt ((h'.out.ext e1 (fun _ _ h => h)).ext ((Ext.refl (fun _ => False) _).drewN nq) (fun _ _ h => h)) (fun _ h => .inl h) ((Ext.refl _ _).drewN nq)

/-- Whatever kind: an act that touches what is there. -/
theorem Do_c (w : World) (b : Nat) (A : PA) (F : Nat → Prop) (h : ArRep w b A F) (a : AV) (hv : Valid A a) :
    Calls Tryd.prog 14 #[ptr b, .agg a.vals.toArray] w (DoR (u64 (doG A a)) w b (doA A a) F) := by
  obtain ⟨hok, h4, h5, h6⟩ := hv
  obtain ⟨kd, bl, c, o, n⟩ := a
  have hk := hok.2
  simp only at hk h4 h5 h6
  rcases hk with ⟨rfl, rfl, rfl⟩ | ⟨rfl, rfl⟩ | rfl | ⟨rfl, rfl⟩ | ⟨rfl, rfl, rfl, rfl, h1⟩ | ⟨rfl, rfl, rfl, rfl⟩
  · exact Do_load w b A F h bl c hok (h4 (by decide))
  · exact Do_store w b A F h bl c n hok (h4 (by decide))
  · exact Do_cas w b A F h bl c o n hok (h4 (by decide))
  · exact Do_add w b A F h bl c n hok (h4 (by decide))
  · obtain ⟨h5a, h5b⟩ := h5 rfl
    by_cases hr : c ≤ A.cells - A.used
    · have e1 : doA A ⟨5, 0, c, 0, 0⟩ = A.alloc c := by simp [doA, roomy, hr]
      have e2 : doG A ⟨5, 0, c, 0, 0⟩ = A.last + 1 := by simp [doG, roomy, hr]
      rw [e1, e2]; exact Do_alloc w b A F h c hok h1 hr h5a
    · have e1 : doA A ⟨5, 0, c, 0, 0⟩ = A := by simp [doA, roomy, hr]
      have e2 : doG A ⟨5, 0, c, 0, 0⟩ = 0 := by simp [doG, roomy, hr]
      rw [e1, e2]; exact Do_alloc0 w b A F h c hok h1 (by omega) h5b
  · obtain ⟨ws, hg⟩ := Option.isSome_iff_exists.1 (h6 rfl)
    exact Do_free w b A F h bl hok ws hg

def PA.new (n : Int) : PA := ⟨n, 0, 0, 0, []⟩
theorem PA.new_ok {n : Int} (h0 : 1 ≤ n) (h1 : n ≤ 65536) : (PA.new n).Ok :=
  ⟨h0, h1, by simp only [PA.new]; omega, rfl, Int.le_refl 0, (by simp [PA.new]), Int.le_refl 0, (by simp [PA.new]), (fun p hp => by cases hp), (fun p hp => by cases hp), List.nodup_nil⟩
theorem arena_New_c (w : World) (n : Int) (h0 : 1 ≤ n) (h1 : n ≤ 65536) : Calls Tryd.prog 46 #[i64 n] w fun e w' => e = .returned (ptr (w.heap.size + 1)) ∧ ArRep w' (w.heap.size + 1) (PA.new n) (grow (fun _ => False) w w') ∧ Ext (fun _ => False) w w' := by
  have hmm := @run_makeMap Tryd.prog
  have hfin : ArRep ((w.alloc (.map #[] 0)).alloc (.cells #[i64 n, i64 0, i64 0, u64 0, .map (some w.heap.size)] 139)) (w.heap.size + 1) (PA.new n) (grow (fun _ => False) w ((w.alloc (.map #[] 0)).alloc (.cells #[i64 n, i64 0, i64 0, u64 0, .map (some w.heap.size)] 139))) := by
    refine ⟨⟨w.heap.size, [], 0, ⟨?_, ?_, (fun e he => by cases he), rfl, List.nodup_nil⟩, .inr ⟨Nat.le_refl _, by simp; omega⟩, (fun e he => by cases he)⟩, .inr ⟨by omega, by simp⟩, grow.lt (fun _ h => h.elim) (by simp; omega), PA.new_ok h0 h1⟩
    · have := Blk.new (w.alloc (.map #[] 0)) [i64 n, i64 0, i64 0, u64 0, .map (some w.heap.size)] 139
      simpa [PA.new] using this
    · exact (Below.heap_alloc _ _ _ (by simp)).trans (World.alloc_heap_new w (.map #[] 0))
  have hfin' := Lib.hid hfin; clear hfin
  go_enter Tryd.func46, Tryd.ntmps46
  go_wp2
  go_ret
  exact ⟨rfl, hfin'.out, ((Ext.refl _ _).alloc _).alloc _⟩
theorem Faults_c (w : World) (b : Nat) (A : PA) (F : Nat → Prop) (h : ArRep w b A F) : Calls Tryd.prog 24 #[ptr b] w (RetS (i64 A.faults) w) := by
  obtain ⟨⟨mb, es, ck, ha, hm, he⟩, hb, hlt, hok⟩ := h
  obtain ⟨hbs, hfr, c0, c1', c2, c3, c4⟩ := ha.c
  clear ha hm he hlt hok
  go_enter Tryd.func24, Tryd.ntmps24
  go_wp2
  go_ret
  exact ⟨rfl, rfl⟩
theorem Used_c (w : World) (b : Nat) (A : PA) (F : Nat → Prop) (h : ArRep w b A F) : Calls Tryd.prog 32 #[ptr b] w (RetS (i64 A.used) w) := by
  obtain ⟨⟨mb, es, ck, ha, hm, he⟩, hb, hlt, hok⟩ := h
  obtain ⟨hbs, hfr, c0, c1', c2, c3, c4⟩ := ha.c
  clear ha hm he hlt hok
  go_enter Tryd.func32, Tryd.ntmps32
  go_wp2
  go_ret
  exact ⟨rfl, rfl⟩
theorem run_look1 (w : World) (mb : Nat) (es : List AE) (ck : Nat) (h : w.heap[mb]? = some (.map (es.map AE.me).toArray ck)) (k : Int) :
    (Instr.lookup 137 (.map (some mb)) (u64 k) false).run Tryd.prog w =
      .ok (((AE.find k es 0).map fun p => p.2.val).getD (.slice none 0 0)) w := by
  have h1 := findNow_ae k es 0
  have hf := MapKept.run_findKey (P := Tryd.prog) (w := w) Tryd.underlying27 h1
  cases hh : AE.find k es 0 with
  | none =>
    rw [hh] at hf
    simp [Instr.lookup, run_underlying Tryd.underlying137, MapKept.run_getObj_map h, MapKept.run_checkKey Tryd.underlying27 (isKey_u64 k), hf, Result.andThen]
  | some p =>
    rw [hh] at hf
    simp [Instr.lookup, run_underlying Tryd.underlying137, MapKept.run_getObj_map h, MapKept.run_checkKey Tryd.underlying27 (isKey_u64 k), hf, Result.andThen]
theorem lookW_none {k : Int} : ∀ {es : List AE} {i : Nat}, lookW k (es.map fun e => (e.key, e.ws)) = none → AE.find k es i = none
  | [], _, _ => rfl
  | e :: es, i, h => by
    simp only [List.map_cons, lookW] at h
    simp only [AE.find]
    by_cases hk : k = e.key
    · rw [if_pos hk] at h; cases h
    · rw [if_neg hk] at h ⊢; exact lookW_none h
theorem Size_c (w : World) (b : Nat) (A : PA) (F : Nat → Prop) (h : ArRep w b A F) (k : Int) : Calls Tryd.prog 30 #[ptr b, u64 k] w (RetS (i64 ((A.get k).getD []).length) w) := by
  obtain ⟨⟨mb, es, ck, ha, hm, he⟩, hb, hlt, hok⟩ := h
  obtain ⟨hbs, hfr, c0, c1', c2, c3, c4⟩ := ha.c
  have hc := Lib.hid ha.c
  have hrun := run_look1 w mb es ck ha.mp k
  cases hg : A.get k with
  | none =>
    have hg' := hg
    unfold PA.get at hg'; rw [ha.ab] at hg'
    rw [lookW_none hg'] at hrun
    simp only [Option.map_none, Option.getD_none] at hrun
    clear ha hm he hlt hok hg hg'
    simp only [Option.getD_none, List.length_nil]
    go_enter Tryd.func30, Tryd.ntmps30
    go_wp2_with (go_at_call 73; with_reducible refine use_s (none_c _ _ _ _ hc.out) ?_)
    go_ret
    exact ⟨rfl, rfl⟩
  | some ws =>
    have hg' := hg
    unfold PA.get at hg'; rw [ha.ab] at hg'
    obtain ⟨j, e, hf, hws⟩ := lookW_find (i := 0) hg'
    rw [hf] at hrun
    simp only [Option.map_some, Option.getD_some, AE.val, hws] at hrun
    clear ha hm he hlt hok hg hg' hf hws
    simp only [Option.getD_some]
    go_enter Tryd.func30, Tryd.ntmps30
    go_wp2_with (go_at_call 73; with_reducible refine use_s (none_c _ _ _ _ hc.out) ?_)
    go_ret
    exact ⟨rfl, rfl⟩
end Go.Proofs.YtlbphffnbhoghaaDoor
