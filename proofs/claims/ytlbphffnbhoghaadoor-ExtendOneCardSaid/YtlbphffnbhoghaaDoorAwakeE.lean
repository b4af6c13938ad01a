/- Layer 26's probe: it answers true. -/
import Derived.Test.YtlbphffnbhoghaaDoorLink
namespace Go.Proofs.YtlbphffnbhoghaaDoor
open Go.RowKit
set_option maxRecDepth 100000
set_option linter.unusedVariables false
set_option linter.unusedSimpArgs false

theorem awakeE_c (w : World) : Calls Tryd.prog 31 #[] w (RetN (.bool true) w) := by
  have hN1 := fun W => Ext_New_c W 2 0 1 1 (by decide) (by decide) (by decide) (by decide) (by decide) (by decide) (.inl rfl)
  have hok1 : ExS.Ok { tb := 2, tlog := 0, log := 1, mark := 1, block := 0, state := 1, lk := 0, lb := 0, lw := 0 } := ⟨by decide, by decide, by decide, by decide, by decide, by decide, by decide, by decide⟩
  have ht : tsize 1 = 25 := by decide
  have hA1 := fun W b hB => Ext_Act1 W b { tb := 2, tlog := 0, log := 1, mark := 1, block := 0, state := 1, lk := 0, lb := 0, lw := 0 } hB rfl
  simp only [ht, actV_some, aAlloc, AV.vals] at hA1
  have hT1 := fun W b hB => Ext_Take1z W b { tb := 2, tlog := 0, log := 1, mark := 1, block := 0, state := 1, lk := 0, lb := 0, lw := 0 } hB rfl
  have hR1 := fun W b hB => Ext_Result_c W b { tb := 2, tlog := 0, log := 1, mark := 1, block := 0, state := 0, lk := 1, lb := 0, lw := 0 } hB rfl (by decide)
  have hA0 := fun W b hB => Ext_Act0 W b { tb := 0, tlog := 0, log := 0, mark := 0, block := 0, state := 0, lk := 0, lb := 0, lw := 0 } hB rfl
  simp only [actV_none] at hA0
  have hN3 := Ext_New3_c; have hTn := Ext_Take_nil; have hRn := Ext_Result_nil
  simp only [ExS.vals] at hN1 hA1 hT1 hR1 hA0
  have hN1' := Lib.hid hN1; have hA1' := Lib.hid hA1; have hT1' := Lib.hid hT1; have hR1' := Lib.hid hR1; have hA0' := Lib.hid hA0; have hN3' := Lib.hid hN3; have hTn' := Lib.hid hTn; have hRn' := Lib.hid hRn
  clear hN1 hA1 hT1 hR1 hA0 hN3 hTn hRn ht hok1
  go_enter Tryd.func31, Tryd.ntmps31
  go_wp2_with (first
    | (go_at_call 33; (with_reducible refine (hN1'.out _).mono ?_); rintro e w1 ⟨b1, rfl, hB, hE, hge⟩; have p1 := Lib.hid hB; have e1 := Lib.hid hE; clear hB hE)
    | (go_at_call 74; (with_reducible refine use_n (hA1'.out _ _ p1.out) (fun w2 hE => ?_)); have p2 := Lib.hid (p1.out.ext hE id); have e2 := Lib.hid hE; clear hE)
    | (go_at_call 75; (with_reducible refine (hT1'.out _ _ (p2.out.alloc _)).mono ?_); rintro e w3 ⟨rfl, hB, hE⟩; have p3 := Lib.hid hB; have e3 := Lib.hid hE; have q3 := Lib.hid ((Blk.new w2 [i64 5, u64 0, i64 25, u64 0, u64 0] 40).ext hE (fun h => Nat.lt_irrefl _ (h ▸ p2.out.lt))); clear hB hE)
    | (go_at_call 34; (with_reducible refine use_n (hR1'.out _ _ p3.out) (fun w4 hE => ?_)); have q4 := Lib.hid (q3.out.ext hE id); have e4 := Lib.hid hE; clear hE)
    | (go_at_call 75; (with_reducible refine use_s (hTn'.out _ _) ?_))
    | (go_at_call 34; (with_reducible refine use_n (hRn'.out _) (fun w5 hE => ?_)); have q5 := Lib.hid ((q4.out.alloc _).ext hE id); have r5 := Lib.hid ((Blk.new w4 [i64 1, u64 0, u64 0] 86).ext hE id); have e5 := Lib.hid hE; clear hE)
    | (go_at_call 33; (with_reducible refine (hN3'.out _).mono ?_); rintro e w6 ⟨b2, rfl, hB, hE⟩; have p6 := Lib.hid hB; have q6 := Lib.hid ((q5.out.alloc _).ext hE id); have r6 := Lib.hid ((r5.out.alloc _).ext hE id); have e6 := Lib.hid hE; clear hB hE)
    | (go_at_call 74; (with_reducible refine use_n (hA0'.out _ _ p6.out) (fun w7 hE => ?_)); obtain ⟨hlt8, hf8, hc8⟩ := (q6.out.ext hE id).open_; obtain ⟨hlt9, hf9, hc9⟩ := (r6.out.ext hE id).open_; simp only [CellsAt, Nat.reduceAdd] at hc8 hc9; have e7 := Lib.hid hE; clear hE))
  go_ret
  exact ⟨rfl, (((((((e1.out.trans e2.out).alloc _).trans' e3.out (fun k h => .inr (h ▸ hge))).trans e4.out).alloc _).trans e5.out).alloc _ |>.trans e6.out |>.trans e7.out).alloc _⟩
end Go.Proofs.YtlbphffnbhoghaaDoor
