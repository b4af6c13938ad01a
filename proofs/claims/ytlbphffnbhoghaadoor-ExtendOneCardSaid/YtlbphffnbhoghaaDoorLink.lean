/- The routine that links a next table, as a kind of routine; what it tells; layer 26's probe. -/
import Derived.Test.YtlbphffnbhoghaaDoorField
namespace Go.Proofs.YtlbphffnbhoghaaDoor
open Go.RowKit
set_option maxRecDepth 100000
set_option linter.unusedVariables false
set_option linter.unusedSimpArgs false

def rExt : Rout where
  σ := ExS
  ty := 83
  fA := 74
  fT := 75
  Rep := fun w b F s => Blk w b s.vals 147 ∧ s.Ok ∧ ∀ k, F k ↔ k = b
  act := ExS.act
  take := ExS.take
  ok := fun s g => s.state = 1 → g < 2305843009213693952
  mA := fun _ _ => by kernel_rfl
  mT := fun _ _ => by kernel_rfl
  cA := enters_of Tryd.func74 (by kernel_rfl) rfl
  cT := enters_of Tryd.func75 (by kernel_rfl) rfl
  lt := fun h k hk => ((h.2.2 k).1 hk) ▸ h.1.lt
  keep := fun h e hS => ⟨h.1.ext e (fun hb => hS _ (.inl ((h.2.2 _).2 rfl)) hb), h.2.1, h.2.2⟩
  actC := fun {w b _ s} h => Ext_Act_c w b s h.1 h.2.1
  takeC := fun {w b F s} h g h0 _ hok => (Ext_Take_c w b s h.1 h.2.1 g h0).mono fun e w' hp =>
    ⟨hp.1, ⟨F, ⟨hp.2.1, h.2.1.take h0 hok, h.2.2⟩, fun _ hk => .inl hk⟩, hp.2.2.mono fun k _ hk => (h.2.2 k).2 hk⟩
theorem Ext_Result_c (w : World) (b : Nat) (s : ExS) (h : Blk w b s.vals 147) (h0 : s.state = 0) (h1 : s.lk ≠ 0) : Calls Tryd.prog 34 #[ptr b] w (RetN (.tuple #[.agg #[i64 s.lk, u64 s.lb, u64 s.lw], .bool true]) w) := by
  obtain ⟨hb, hf, hc⟩ := h.open_
  simp only [ExS.vals, CellsAt, Nat.reduceAdd] at hc
  rw [h0] at hc
  have h1' : (s.lk == 0) = false := by simpa using h1
  clear h h0
  go_enter Tryd.func34, Tryd.ntmps34
  go_wp2
  refine bodyPost_ret (v := .tuple #[.agg #[i64 s.lk, u64 s.lb, u64 s.lw], .bool true]) (by simp [results, Tryd.results34, go_sem]) rfl ⟨rfl, (Ext.refl _ _).alloc _⟩
theorem Ext_Result_nil (w : World) : Calls Tryd.prog 34 #[.pointer none] w (RetN (.tuple #[.agg #[i64 0, u64 0, u64 0], .bool false]) w) := by
  go_enter Tryd.func34, Tryd.ntmps34
  go_wp2
  refine bodyPost_ret (v := .tuple #[.agg #[i64 0, u64 0, u64 0], .bool false]) (by simp [results, Tryd.results34, go_sem]) rfl ⟨rfl, (Ext.refl _ _).alloc _⟩
theorem Ext_Take_nil (w : World) (g : Int) : Calls Tryd.prog 75 #[.pointer none, u64 g] w (RetS unit w) := by
  go_enter Tryd.func75, Tryd.ntmps75
  go_wp2
  go_end0
  exact ⟨rfl, rfl⟩
/-- Made with a mark that may not be: one that does nothing. -/
theorem Ext_New3_c (w : World) : Calls Tryd.prog 33 #[.agg #[u64 2, i64 0], i64 1, i64 3] w fun e w' => ∃ b, e = .returned (ptr b) ∧ Blk w' b [u64 0, i64 0, i64 0, i64 0, u64 0, i64 0, i64 0, u64 0, u64 0] 147 ∧ Ext (fun _ => False) w w' := by
  have hR := fun W => table_Right_c W 2 0 (by decide) (by decide) (by decide)
  have hS := fun W => table_Size_c W 1
  have hz' : (tsize 1 == 0) = false := by decide
  have hR' := Lib.hid hR; have hS' := Lib.hid hS
  clear hR hS
  go_enter Tryd.func33, Tryd.ntmps33
  go_wp2_with (first
      | (go_at_call 57; refine use_n (hR'.out _) (fun w1 hw1 => ?_); obtain ⟨hlt1, hf1, hc1⟩ := ((Blk.new w [u64 2, i64 0] 29).ext hw1 id).open_; simp only [CellsAt, Nat.reduceAdd] at hc1; have hw1' := Lib.hid hw1; clear hw1)
      | (go_at_call 36; refine use_s (hS'.out _) ?_))
  go_ret
  exact ⟨_, rfl, Blk.new _ _ _, (((Ext.refl _ _).alloc _).trans hw1'.out).alloc _⟩
end Go.Proofs.YtlbphffnbhoghaaDoor
