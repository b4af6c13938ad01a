/- The routine that links a next table. -/
import Derived.Test.YtlbphffnbhoghaaDoorDo
namespace Go.Proofs.YtlbphffnbhoghaaDoor
open Go.RowKit
set_option maxRecDepth 100000
set_option linter.unusedVariables false
set_option linter.unusedSimpArgs false

/-- What a routine's Act hands back. -/
def actV : Option AV → Value
  | none => .tuple #[.agg noAct.vals.toArray, .bool false]
  | some a => .tuple #[.agg a.vals.toArray, .bool true]
theorem actV_some (a : AV) : actV (some a) = .tuple #[.agg a.vals.toArray, .bool true] := rfl
theorem actV_none : actV none = .tuple #[.agg #[i64 0, u64 0, i64 0, u64 0, u64 0], .bool false] := rfl

structure ExS where
  tb : Int
  tlog : Int
  log : Int
  mark : Int
  block : Int
  state : Int
  lk : Int
  lb : Int
  lw : Int
def ExS.vals (s : ExS) : List Value := [u64 s.tb, i64 s.tlog, i64 s.log, i64 s.mark, u64 s.block, i64 s.state, i64 s.lk, u64 s.lb, u64 s.lw]
structure ExS.Ok (s : ExS) : Prop where
  t0 : 0 < s.tb
  t1 : s.tb < 18446744073709551616
  l0 : 0 ≤ s.log
  l1 : s.log ≤ 9
  m : s.mark = 1 ∨ s.mark = 2
  b0 : 0 ≤ s.block
  b1 : s.block < 2305843009213693952
  st : s.state = 0 ∨ s.state = 1 ∨ s.state = 2 ∨ s.state = 3 ∨ s.state = 4
def ExS.act (s : ExS) : Option AV :=
  if s.state = 1 then some (aAlloc (tsize s.log))
  else if s.state = 2 then some (aStore s.block 0 s.log)
  else if s.state = 3 then some (aCas s.tb 1 0 (s.block * 8 + s.mark))
  else if s.state = 4 then some (aFree s.block)
  else none
theorem Ext_word_c (w : World) (b : Nat) (s : ExS) (h : Blk w b s.vals 147) (hok : s.Ok) : Calls Tryd.prog 96 #[ptr b] w (RetD (u64 (s.block * 8 + s.mark)) w) := by
  obtain ⟨hb, hf, hc⟩ := h.open_
  simp only [ExS.vals, CellsAt, Nat.reduceAdd] at hc
  have m := hok.m; have b0 := hok.b0; have b1 := hok.b1
  have hM := fun W => tag_Make_c s.block s.mark b0 b1 (by omega) (by omega) W
  have hM' := Lib.hid hM; clear hM h m b0 b1 hok
  go_enter Tryd.func96, Tryd.ntmps96
  go_wp2_with fail
  go_quiet ((go_at_call 101; exact Calls.quiet_of_same (RetS.same (hM'.out _))))
  go_wp2
  go_ret
  exact ⟨rfl, _, rfl⟩
theorem Ext_Act1 (w : World) (b : Nat) (s : ExS) (h : Blk w b s.vals 147) (hs : s.state = 1) : Calls Tryd.prog 74 #[ptr b] w (RetN (actV (some (aAlloc (tsize s.log)))) w) := by
  obtain ⟨hb, hf, hc⟩ := h.open_
  simp only [ExS.vals, hs, CellsAt, Nat.reduceAdd] at hc
  have hS := fun W => table_Size_c W s.log
  have hS' := Lib.hid hS; clear hS h hs
  go_enter Tryd.func74, Tryd.ntmps74
  go_wp2_with (go_at_call 36; refine use_s (hS'.out _) ?_)
  rw [actV_some]
  exact bodyPost_ret (v := .tuple #[.agg #[i64 5, u64 0, i64 (tsize s.log), u64 0, u64 0], .bool true]) (by simp [results, Tryd.results74, go_sem]) rfl ⟨rfl, (by repeat (first | with_reducible assumption | with_reducible exact Ext.refl _ _ | with_reducible apply Ext.drewN | with_reducible apply Ext.drew | with_reducible apply Ext.alloc | with_reducible refine Ext.setCell ?_ _ _ (.inr (Nat.le_refl _))))⟩
theorem Ext_Act2 (w : World) (b : Nat) (s : ExS) (h : Blk w b s.vals 147) (hok : s.Ok) (hs : s.state = 2) : Calls Tryd.prog 74 #[ptr b] w (RetN (actV (some (aStore s.block 0 s.log))) w) := by
  obtain ⟨hb, hf, hc⟩ := h.open_
  simp only [ExS.vals, hs, CellsAt, Nat.reduceAdd] at hc
  have l0 := hok.l0; have l1 := hok.l1
  have hwr := wrapu s.log l0 (by omega)
  clear h hs hok
  go_enter Tryd.func74, Tryd.ntmps74
  go_wp2
  go_region_held3 (fun w' => w'.cell? ⟨b, 2, none⟩ = some (i64 s.log) ∧ w'.cell? ⟨b, 4, none⟩ = some (u64 s.block)) (go_keep) (fail)
  go_wp2
  rw [actV_some]
  exact bodyPost_ret (v := .tuple #[.agg #[i64 2, u64 s.block, i64 0, u64 0, u64 s.log], .bool true]) (by simp [results, Tryd.results74, go_sem]) rfl ⟨rfl, (by repeat (first | with_reducible assumption | with_reducible exact Ext.refl _ _ | with_reducible apply Ext.drewN | with_reducible apply Ext.drew | with_reducible apply Ext.alloc | with_reducible refine Ext.setCell ?_ _ _ (.inr (Nat.le_refl _))))⟩
theorem Ext_Act3 (w : World) (b : Nat) (s : ExS) (h : Blk w b s.vals 147) (hok : s.Ok) (hs : s.state = 3) : Calls Tryd.prog 74 #[ptr b] w (RetN (actV (some (aCas s.tb 1 0 (s.block * 8 + s.mark)))) w) := by
  obtain ⟨hb, hf, hc⟩ := h.open_
  have hW := fun W (hB : Blk W b s.vals 147) => Ext_word_c W b s hB hok
  have h1 := h.alloc (.cells #[i64 0, u64 0, i64 0, u64 0, u64 0] 40)
  have h1' := Lib.hid h1; have hW' := Lib.hid hW
  simp only [ExS.vals, hs, CellsAt, Nat.reduceAdd] at hc
  clear h hs hok hW h1
  have n1 : ¬ b = w.heap.size := by omega
  have n2 : ¬ w.heap.size = b := by omega
  go_enter Tryd.func74, Tryd.ntmps74
  go_wp2
  go_region_held3 (fun w' => w'.cell? ⟨b, 0, none⟩ = some (u64 s.tb)) (go_keep) (first | (go_at_call 96; refine use_d (hW'.out _ h1'.out) (fun n => ?_)))
  go_wp2
  rw [actV_some]
  exact bodyPost_ret (v := .tuple #[.agg #[i64 3, u64 s.tb, i64 1, u64 0, u64 (s.block * 8 + s.mark)], .bool true]) (by simp [results, Tryd.results74, go_sem]) rfl ⟨rfl, (by repeat (first | with_reducible assumption | with_reducible exact Ext.refl _ _ | with_reducible apply Ext.drewN | with_reducible apply Ext.drew | with_reducible apply Ext.alloc | with_reducible refine Ext.setCell ?_ _ _ (.inr (Nat.le_refl _))))⟩
theorem Ext_Act4 (w : World) (b : Nat) (s : ExS) (h : Blk w b s.vals 147) (hs : s.state = 4) : Calls Tryd.prog 74 #[ptr b] w (RetN (actV (some (aFree s.block))) w) := by
  obtain ⟨hb, hf, hc⟩ := h.open_
  simp only [ExS.vals, hs, CellsAt, Nat.reduceAdd] at hc
  clear h hs
  go_enter Tryd.func74, Tryd.ntmps74
  go_wp2
  rw [actV_some]
  exact bodyPost_ret (v := .tuple #[.agg #[i64 6, u64 s.block, i64 0, u64 0, u64 0], .bool true]) (by simp [results, Tryd.results74, go_sem]) rfl ⟨rfl, (by repeat (first | with_reducible assumption | with_reducible exact Ext.refl _ _ | with_reducible apply Ext.drewN | with_reducible apply Ext.drew | with_reducible apply Ext.alloc | with_reducible refine Ext.setCell ?_ _ _ (.inr (Nat.le_refl _))))⟩
theorem Ext_Act0 (w : World) (b : Nat) (s : ExS) (h : Blk w b s.vals 147) (hs : s.state = 0) : Calls Tryd.prog 74 #[ptr b] w (RetN (actV none) w) := by
  obtain ⟨hb, hf, hc⟩ := h.open_
  simp only [ExS.vals, hs, CellsAt, Nat.reduceAdd] at hc
  clear h hs
  go_enter Tryd.func74, Tryd.ntmps74
  go_wp2
  rw [actV_none]
  exact bodyPost_ret (v := .tuple #[.agg #[i64 0, u64 0, i64 0, u64 0, u64 0], .bool false]) (by simp [results, Tryd.results74, go_sem]) rfl ⟨rfl, (by repeat (first | with_reducible assumption | with_reducible exact Ext.refl _ _ | with_reducible apply Ext.drewN | with_reducible apply Ext.drew | with_reducible apply Ext.alloc | with_reducible refine Ext.setCell ?_ _ _ (.inr (Nat.le_refl _))))⟩
theorem Ext_Act_c (w : World) (b : Nat) (s : ExS) (h : Blk w b s.vals 147) (hok : s.Ok) : Calls Tryd.prog 74 #[ptr b] w (RetN (actV s.act) w) := by
  rcases hok.st with e | e | e | e | e
  · have : s.act = none := by simp [ExS.act, e]
    rw [this]; exact Ext_Act0 w b s h e
  · have : s.act = some (aAlloc (tsize s.log)) := by simp [ExS.act, e]
    rw [this]; exact Ext_Act1 w b s h e
  · have : s.act = some (aStore s.block 0 s.log) := by simp [ExS.act, e]
    rw [this]; exact Ext_Act2 w b s h hok e
  · have : s.act = some (aCas s.tb 1 0 (s.block * 8 + s.mark)) := by simp [ExS.act, e]
    rw [this]; exact Ext_Act3 w b s h hok e
  · have : s.act = some (aFree s.block) := by simp [ExS.act, e]
    rw [this]; exact Ext_Act4 w b s h e

/-- A method that has changed its object's block alone. -/
def StepO (v : Value) (w : World) (b : Nat) (cs : List Value) (T : TypeId) (e : Ending) (w' : World) : Prop := e = .returned v ∧ Blk w' b cs T ∧ Ext (fun k => k = b) w w'
abbrev unit : Value := .tuple #[]
theorem Ext_Take1 (w : World) (b : Nat) (s : ExS) (h : Blk w b s.vals 147) (hs : s.state = 1) (g : Int) (hg : 0 < g) : Calls Tryd.prog 75 #[ptr b, u64 g] w (StepO unit w b { s with block := g, state := 2 }.vals 147) := by
  obtain ⟨hb, hf, hc⟩ := h.open_
  have h' := Lib.hid h
  simp only [ExS.vals, hs, CellsAt, Nat.reduceAdd] at hc
  clear h hs
  go_enter Tryd.func75, Tryd.ntmps75
  go_wp2
  go_end0
  refine ⟨rfl, ?blk, ?ext⟩
  case blk => (apply Blk.conv; (repeat (first | with_reducible exact h'.out | with_reducible apply Blk.set | with_reducible apply Blk.drewN | with_reducible apply Blk.drew | with_reducible apply Blk.alloc)); rfl)
  case ext => (repeat (first | with_reducible exact Ext.refl _ _ | with_reducible apply ext_set | with_reducible apply Ext.drewN | with_reducible apply Ext.drew | with_reducible apply Ext.alloc))
theorem Ext_Take1z (w : World) (b : Nat) (s : ExS) (h : Blk w b s.vals 147) (hs : s.state = 1) : Calls Tryd.prog 75 #[ptr b, u64 0] w (StepO unit w b { s with block := 0, state := 0, lk := 1, lb := 0, lw := 0 }.vals 147) := by
  obtain ⟨hb, hf, hc⟩ := h.open_
  have h' := Lib.hid h
  simp only [ExS.vals, hs, CellsAt, Nat.reduceAdd] at hc
  clear h hs
  go_enter Tryd.func75, Tryd.ntmps75
  go_wp2
  go_end0
  refine ⟨rfl, ?blk, ?ext⟩
  case blk => (apply Blk.conv; (repeat (first | with_reducible exact h'.out | with_reducible apply Blk.set | with_reducible apply Blk.drewN | with_reducible apply Blk.drew | with_reducible apply Blk.alloc)); rfl)
  case ext => (repeat (first | with_reducible exact Ext.refl _ _ | with_reducible apply ext_set | with_reducible apply Ext.drewN | with_reducible apply Ext.drew | with_reducible apply Ext.alloc))
theorem Ext_Take2 (w : World) (b : Nat) (s : ExS) (h : Blk w b s.vals 147) (hs : s.state = 2) (g : Int) : Calls Tryd.prog 75 #[ptr b, u64 g] w (StepO unit w b { s with state := 3 }.vals 147) := by
  obtain ⟨hb, hf, hc⟩ := h.open_
  have h' := Lib.hid h
  simp only [ExS.vals, hs, CellsAt, Nat.reduceAdd] at hc
  clear h hs
  go_enter Tryd.func75, Tryd.ntmps75
  go_wp2
  go_end0
  refine ⟨rfl, ?blk, ?ext⟩
  case blk => (apply Blk.conv; (repeat (first | with_reducible exact h'.out | with_reducible apply Blk.set | with_reducible apply Blk.drewN | with_reducible apply Blk.drew | with_reducible apply Blk.alloc)); rfl)
  case ext => (repeat (first | with_reducible exact Ext.refl _ _ | with_reducible apply ext_set | with_reducible apply Ext.drewN | with_reducible apply Ext.drew | with_reducible apply Ext.alloc))
theorem Ext_Take4 (w : World) (b : Nat) (s : ExS) (h : Blk w b s.vals 147) (hs : s.state = 4) (g : Int) : Calls Tryd.prog 75 #[ptr b, u64 g] w (StepO unit w b { s with state := 0 }.vals 147) := by
  obtain ⟨hb, hf, hc⟩ := h.open_
  have h' := Lib.hid h
  simp only [ExS.vals, hs, CellsAt, Nat.reduceAdd] at hc
  clear h hs
  go_enter Tryd.func75, Tryd.ntmps75
  go_wp2
  go_end0
  refine ⟨rfl, ?blk, ?ext⟩
  case blk => (apply Blk.conv; (repeat (first | with_reducible exact h'.out | with_reducible apply Blk.set | with_reducible apply Blk.drewN | with_reducible apply Blk.drew | with_reducible apply Blk.alloc)); rfl)
  case ext => (repeat (first | with_reducible exact Ext.refl _ _ | with_reducible apply ext_set | with_reducible apply Ext.drewN | with_reducible apply Ext.drew | with_reducible apply Ext.alloc))
theorem Ext_Take0 (w : World) (b : Nat) (s : ExS) (h : Blk w b s.vals 147) (hs : s.state = 0) (g : Int) : Calls Tryd.prog 75 #[ptr b, u64 g] w (StepO unit w b s.vals 147) := by
  obtain ⟨hb, hf, hc⟩ := h.open_
  have h' := Lib.hid h
  simp only [ExS.vals, hs, CellsAt, Nat.reduceAdd] at hc
  clear h hs
  go_enter Tryd.func75, Tryd.ntmps75
  go_wp2
  go_end0
  refine ⟨rfl, ?blk, ?ext⟩
  case blk => (apply Blk.conv; (repeat (first | with_reducible exact h'.out | with_reducible apply Blk.set | with_reducible apply Blk.drewN | with_reducible apply Blk.drew | with_reducible apply Blk.alloc)); rfl)
  case ext => (repeat (first | with_reducible exact Ext.refl _ _ | with_reducible apply ext_set | with_reducible apply Ext.drewN | with_reducible apply Ext.drew | with_reducible apply Ext.alloc))
theorem Ext_Take3n (w : World) (b : Nat) (s : ExS) (h : Blk w b s.vals 147) (hs : s.state = 3) (g : Int) (hg : 0 < g) : Calls Tryd.prog 75 #[ptr b, u64 g] w (StepO unit w b { s with state := 4, lk := 3, lb := 0, lw := g }.vals 147) := by
  obtain ⟨hb, hf, hc⟩ := h.open_
  have h' := Lib.hid h
  simp only [ExS.vals, hs, CellsAt, Nat.reduceAdd] at hc
  clear h hs
  go_enter Tryd.func75, Tryd.ntmps75
  go_wp2
  go_end0
  refine ⟨rfl, ?blk, ?ext⟩
  case blk => (apply Blk.conv; (repeat (first | with_reducible exact h'.out | with_reducible apply Blk.set | with_reducible apply Blk.drewN | with_reducible apply Blk.drew | with_reducible apply Blk.alloc)); rfl)
  case ext => (repeat (first | with_reducible exact Ext.refl _ _ | with_reducible apply ext_set | with_reducible apply Ext.drewN | with_reducible apply Ext.drew | with_reducible apply Ext.alloc))
theorem Ext_Take3z (w : World) (b : Nat) (s : ExS) (h : Blk w b s.vals 147) (hok : s.Ok) (hs : s.state = 3) : Calls Tryd.prog 75 #[ptr b, u64 0] w (StepO unit w b { s with state := 0, lk := 2, lb := s.block, lw := s.block * 8 + s.mark }.vals 147) := by
  obtain ⟨hb, hf, hc⟩ := h.open_
  have h' := Lib.hid h
  have hW := fun W (hB : Blk W b s.vals 147) => Ext_word_c W b s hB hok
  have hW' := Lib.hid hW
  simp only [ExS.vals, hs, CellsAt, Nat.reduceAdd] at hc
  clear h hs hok hW
  go_enter Tryd.func75, Tryd.ntmps75
  go_wp2
  go_region_held3 (fun w' => w'.cell? ⟨b, 4, none⟩ = some (u64 s.block)) (simp [*, World.cell?_alloc_some, World.cell?_setCell_far, World.cell?_setCell_other]) (first | (go_at_call 96; refine use_d (hW'.out _ h'.out) (fun n => ?_)))
  go_wp2
  go_end0
  refine ⟨rfl, ?blk, ?ext⟩
  case blk => (apply Blk.conv; (repeat (first | with_reducible exact h'.out | with_reducible apply Blk.set | with_reducible apply Blk.drewN | with_reducible apply Blk.drew | with_reducible apply Blk.alloc)); rfl)
  case ext => (repeat (first | with_reducible exact Ext.refl _ _ | with_reducible apply ext_set | with_reducible apply Ext.drewN | with_reducible apply Ext.drew | with_reducible apply Ext.alloc))

/-- Whatever is answered to an act (a new block's number fits a slot's word). -/
def ExS.take (s : ExS) (g : Int) : ExS :=
  if s.state = 1 then (if g = 0 then { s with block := 0, state := 0, lk := 1, lb := 0, lw := 0 } else { s with block := g, state := 2 })
  else if s.state = 2 then { s with state := 3 }
  else if s.state = 3 then (if g = 0 then { s with state := 0, lk := 2, lb := s.block, lw := s.block * 8 + s.mark } else { s with state := 4, lk := 3, lb := 0, lw := g })
  else if s.state = 4 then { s with state := 0 }
  else s
theorem Ext_Take_c (w : World) (b : Nat) (s : ExS) (h : Blk w b s.vals 147) (hok : s.Ok) (g : Int) (h0 : 0 ≤ g) : Calls Tryd.prog 75 #[ptr b, u64 g] w (StepO unit w b (s.take g).vals 147) := by
  rcases hok.st with e | e | e | e | e
  · have : s.take g = s := by simp [ExS.take, e]
    rw [this]; exact Ext_Take0 w b s h e g
  · by_cases hg : g = 0
    · subst hg
      have : s.take 0 = { s with block := 0, state := 0, lk := 1, lb := 0, lw := 0 } := by simp [ExS.take, e]
      rw [this]; exact Ext_Take1z w b s h e
    · have : s.take g = { s with block := g, state := 2 } := by simp [ExS.take, e, hg]
      rw [this]; exact Ext_Take1 w b s h e g (by omega)
  · have : s.take g = { s with state := 3 } := by simp [ExS.take, e]
    rw [this]; exact Ext_Take2 w b s h e g
  · by_cases hg : g = 0
    · subst hg
      have : s.take 0 = { s with state := 0, lk := 2, lb := s.block, lw := s.block * 8 + s.mark } := by simp [ExS.take, e]
      rw [this]; exact Ext_Take3z w b s h hok e
    · have : s.take g = { s with state := 4, lk := 3, lb := 0, lw := g } := by simp [ExS.take, e, hg]
      rw [this]; exact Ext_Take3n w b s h e g (by omega)
  · have : s.take g = { s with state := 0 } := by simp [ExS.take, e]
    rw [this]; exact Ext_Take4 w b s h e g
theorem ExS.Ok.take {s : ExS} (h : s.Ok) {g : Int} (h0 : 0 ≤ g) (h1 : s.state = 1 → g < 2305843009213693952) : (s.take g).Ok := by
  obtain ⟨t0, t1, l0, l1, m, b0, b1, st⟩ := h
  unfold ExS.take
  rcases st with e | e | e | e | e <;> simp only [e] at h1 ⊢ <;> simp
  · exact ⟨t0, t1, l0, l1, m, b0, b1, .inl e⟩
  · split
    · exact ⟨t0, t1, l0, l1, m, by simp, by simp, by simp⟩
    · exact ⟨t0, t1, l0, l1, m, h0, h1 trivial, by simp⟩
  · exact ⟨t0, t1, l0, l1, m, b0, b1, by simp⟩
  · split
    · exact ⟨t0, t1, l0, l1, m, b0, b1, by simp⟩
    · exact ⟨t0, t1, l0, l1, m, b0, b1, by simp⟩
  · exact ⟨t0, t1, l0, l1, m, b0, b1, by simp⟩
/-- One who links is made. -/
theorem Ext_New_c (w : World) (tb tlog log mark : Int) (t0 : 0 < tb) (t1 : tb < 18446744073709551616) (g0 : 0 ≤ tlog) (g1 : tlog ≤ 9) (l0 : 0 ≤ log) (l1 : log ≤ 9) (hm : mark = 1 ∨ mark = 2) :
    Calls Tryd.prog 33 #[.agg #[u64 tb, i64 tlog], i64 log, i64 mark] w fun e w' => ∃ b, e = .returned (ptr b) ∧ Blk w' b ({ tb := tb, tlog := tlog, log := log, mark := mark, block := 0, state := 1, lk := 0, lb := 0, lw := 0 } : ExS).vals 147 ∧ Ext (fun _ => False) w w' ∧ w.heap.size ≤ b := by
  have hR := fun W => table_Right_c W tb tlog t0 g0 g1
  have hS := fun W => table_Size_c W log
  have hg := groups_pos l0 l1
  have hz : tsize log ≠ 0 := by unfold tsize; rw [if_neg (by omega)]; omega
  have hz' : (tsize log == 0) = false := by simpa using hz
  have hR' := Lib.hid hR; have hS' := Lib.hid hS
  clear hR hS hz hg
  rcases hm with rfl | rfl
  all_goals
    go_enter Tryd.func33, Tryd.ntmps33
    go_wp2_with (first
      | (go_at_call 57; refine use_n (hR'.out _) (fun w1 hw1 => ?_); obtain ⟨hlt1, hf1, hc1⟩ := ((Blk.new w [u64 tb, i64 tlog] 29).ext hw1 id).open_; simp only [CellsAt, Nat.reduceAdd] at hc1; have hw1' := Lib.hid hw1; clear hw1)
      | (go_at_call 36; refine use_s (hS'.out _) ?_))
    go_ret
    refine ⟨_, rfl, Blk.new _ _ _, ?_, ?_⟩
    · exact ((((Ext.refl _ _).alloc _).trans hw1'.out).alloc _)
    · have := hw1'.out.size; simp at this ⊢; omega
end Go.Proofs.YtlbphffnbhoghaaDoor
