/- Routines, driven on an arena: the next act; alone; by picks. -/
import Derived.Test.YtlbphffnbhoghaaDoorExtend
import Derived.RangeFuncNested
import Derived.RangeFuncLeaves
import Derived.Shelf.Abstract
import Derived.Shelf.RegionOpen
import Derived.OwnWalkIn
import Derived.TacticsInMore
import Derived.LoopNIn
import Derived.LoopIn
namespace Go.Proofs.YtlbphffnbhoghaaDoor
open Go.RowKit
set_option maxRecDepth 100000
set_option linter.unusedVariables false
set_option linter.unusedSimpArgs false

/-- A kind of routine: how one lies in memory, what it does next, how it takes an answer. -/
structure Rout where
  σ : Type
  ty : TypeId
  fA : FuncId
  fT : FuncId
  Rep : World → Nat → (Nat → Prop) → σ → Prop
  act : σ → Option AV
  take : σ → Int → σ
  ok : σ → Int → Prop
  mA : ∀ (b : Nat) (w : World), (method 334 ty (ptr b) "Act").run Tryd.prog w = .ok (fA, ptr b) w
  mT : ∀ (b : Nat) (w : World), (method 334 ty (ptr b) "Take").run Tryd.prog w = .ok (fT, ptr b) w
  cA : ∀ (args : Array Value) (w : World), (callFunc fA args).run Tryd.prog w = .ok (.enter fA args) w
  cT : ∀ (args : Array Value) (w : World), (callFunc fT args).run Tryd.prog w = .ok (.enter fT args) w
  lt : ∀ {w : World} {b : Nat} {F : Nat → Prop} {s : σ}, Rep w b F s → ∀ k, F k → k < w.heap.size
  keep : ∀ {w w' : World} {b : Nat} {F S : Nat → Prop} {s : σ}, Rep w b F s → Ext S w w' → (∀ k, F k ∨ k = 0 → ¬ S k) → Rep w' b F s
  actC : ∀ {w : World} {b : Nat} {F : Nat → Prop} {s : σ}, Rep w b F s → Calls Tryd.prog fA #[ptr b] w (RetN (actV (act s)) w)
  takeC : ∀ {w : World} {b : Nat} {F : Nat → Prop} {s : σ}, Rep w b F s → ∀ g : Int, 0 ≤ g → g < 18446744073709551616 → ok s g →
    Calls Tryd.prog fT #[ptr b, u64 g] w fun e w' => e = .returned unit ∧ (∃ F', Rep w' b F' (take s g) ∧ ∀ k, F' k → F k ∨ w.heap.size ≤ k) ∧ Ext F w w'

/-- How the arena and a routine lie behind an act. -/
def NextP (R : Rout) (w : World) (a b : Nat) (A' : PA) (FA F : Nat → Prop) (s' : R.σ) (w' : World) : Prop :=
  (∃ FA' F', ArRep w' a A' FA' ∧ R.Rep w' b F' s' ∧ (∀ k, FA' k → FA k ∨ w.heap.size ≤ k) ∧ (∀ k, F' k → F k ∨ w.heap.size ≤ k) ∧ ∀ k, F' k → ¬ FA' k) ∧ Ext (fun k => FA k ∨ F k) w w'
theorem next_fin (R : Rout) {w wa w2 w3 W : World} {a b : Nat} {A2 : PA} {FA F : Nat → Prop} {s' : R.σ} (hFA : ∀ k, FA k → k < w.heap.size) (hF : ∀ k, F k → k < w.heap.size) (hd : ∀ k, F k → ¬ FA k) (hsz : 0 < w.heap.size)
    (e1 : Ext (fun _ => False) w wa) (hn : w.heap.size < wa.heap.size) (hr2 : ArRep w2 a A2 (grow FA wa w2)) (he2 : Ext FA wa w2) (hr3 : ∃ F', R.Rep w3 b F' s' ∧ ∀ k, F' k → F k ∨ w2.heap.size ≤ k) (he3 : Ext F w2 w3)
    (e4 : Ext (fun k => k = w.heap.size) w3 W) : NextP R w a b A2 FA F s' W := by
  obtain ⟨F', hF', hsub⟩ := hr3
  have hs2 := he2.size
  refine ⟨⟨grow FA wa w2, F', ?_, ?_, ?_, ?_, ?_⟩, ?_⟩
  · refine (hr2.ext he3 ?_).ext e4 ?_
    · rintro k (h | h) hk
      · exact hd k hk h
      · have := hF k hk; omega
    · rintro k (h | h) rfl
      · exact Nat.lt_irrefl _ (hFA _ h)
      · omega
  · refine R.keep hF' e4 ?_
    rintro k h rfl
    rcases h with h | h
    · rcases hsub _ h with h | h
      · exact Nat.lt_irrefl _ (hF _ h)
      · omega
    · omega
  · rintro k (h | h)
    · exact .inl h
    · exact .inr (by omega)
  · intro k h
    rcases hsub _ h with h | h
    · exact .inl h
    · exact .inr (by omega)
  · rintro k h (h' | h')
    · rcases hsub _ h with h | h
      · exact hd _ h h'
      · have := hFA _ h'; omega
    · rcases hsub _ h with h | h
      · have := hF _ h; omega
      · omega
  · refine ((((e1.mono fun _ _ h => h.elim).trans' he2 fun i h => .inl (.inl h)).trans' he3 fun i h => .inl (.inr h)).trans' e4 fun i h => .inr (by omega))
theorem next_none (R : Rout) (w : World) (a b : Nat) (F : Nat → Prop) (s : R.σ) (hB : R.Rep w b F s) (hx : R.act s = none) :
    Calls Tryd.prog 66 #[ptr a, .iface R.ty (ptr b)] w (RetN (.tuple #[.agg noAct.vals.toArray, u64 0, .bool false]) w) := by
  have hAct := fun W (hB : R.Rep W b F s) => R.actC hB
  rw [hx, actV_none] at hAct
  have mA := R.mA b; have cA := R.cA
  have hB' := Lib.hid hB; have hAct' := Lib.hid hAct
  clear hB hAct hx
  go_enter Tryd.func66, Tryd.ntmps66
  go_wp2_with (with_reducible refine use_n (hAct'.out _ (R.keep hB'.out ((Ext.refl (fun _ => False) w).alloc _) (fun _ _ h => h))) (fun w1 hw1 => ?_); obtain ⟨hlt1, hf1, hc1⟩ := ((Blk.new w [i64 0, u64 0, i64 0, u64 0, u64 0] 40).ext hw1 id).open_; simp only [CellsAt, Nat.reduceAdd] at hc1; have hw1' := Lib.hid hw1; clear hw1)
  refine bodyPost_ret (v := .tuple #[.agg noAct.vals.toArray, u64 0, .bool false]) (by simp [results, Tryd.results66, go_sem, noAct, AV.vals, *]) rfl ⟨rfl, ?_⟩
  have e1 := ((Ext.refl (fun _ => False) w).alloc _).trans hw1'.out
  repeat (first | (with_reducible refine Ext.setCell ?_ _ _ (by with_unfolding_all exact .inr (Nat.le_refl _))) | with_reducible refine Ext.alloc ?_ _)
  with_reducible exact e1
theorem next_c (R : Rout) (w : World) (a b : Nat) (A : PA) (FA F : Nat → Prop) (s : R.σ) (hA : ArRep w a A FA) (hB : R.Rep w b F s) (x : AV) (hx : R.act s = some x) (hv : Valid A x) (hd : ∀ k, F k → ¬ FA k) (hz : ¬ FA 0) (hg0 : 0 ≤ doG A x) (hg1 : doG A x < 18446744073709551616) (hk : R.ok s (doG A x)) :
    Calls Tryd.prog 66 #[ptr a, .iface R.ty (ptr b)] w fun e w' => e = .returned (.tuple #[.agg x.vals.toArray, u64 (doG A x), .bool true]) ∧ NextP R w a b (doA A x) FA F (R.take s (doG A x)) w' := by
  have hDo := fun W (hA : ArRep W a A FA) => Do_c W a A FA hA x hv
  have hTk := fun W (hB : R.Rep W b F s) => R.takeC (w := W) hB _ hg0 hg1 hk
  have hFA := hA.lt; have hF := R.lt hB
  have hsz' := Lib.hid (show 0 < w.heap.size by have := hFA _ hA.b; omega)
  have hd0' := Lib.hid (show ∀ k, F k ∨ k = 0 → ¬ FA k from fun k hk => hk.elim (hd k) (fun e => e ▸ hz))
  have hAct := fun W (hB : R.Rep W b F s) => R.actC hB
  rw [hx, actV_some] at hAct
  obtain ⟨kd, bl, cl, od, nw⟩ := x
  simp only [AV.vals] at hAct hDo
  generalize doG A ⟨kd, bl, cl, od, nw⟩ = g at hDo hTk ⊢
  generalize doA A ⟨kd, bl, cl, od, nw⟩ = A2 at hDo ⊢
  have mA := R.mA b; have mT := R.mT b; have cA := R.cA; have cT := R.cT
  have hA' := Lib.hid hA; have hB' := Lib.hid hB; have hAct' := Lib.hid hAct; have hDo' := Lib.hid hDo; have hTk' := Lib.hid hTk; have hd' := Lib.hid hd; have hFA' := Lib.hid hFA; have hF' := Lib.hid hF
  clear hA hB hAct hv hx hDo hTk hd hFA hF hg0 hg1 hk hz
  go_enter Tryd.func66, Tryd.ntmps66
  go_wp2_with (first
    | (with_reducible refine use_n (hAct'.out _ (R.keep hB'.out ((Ext.refl (fun _ => False) w).alloc _) (fun _ _ h => h))) (fun w1 hw1 => ?_); obtain ⟨hlt1, hf1, hc1⟩ := ((Blk.new w [i64 0, u64 0, i64 0, u64 0, u64 0] 40).ext hw1 id).open_; simp only [CellsAt, Nat.reduceAdd] at hc1; have hw1' := Lib.hid hw1; clear hw1)
    | (go_at_call 14; refine (hDo'.out _ (hA'.out.ext ((((Ext.refl (fun _ => False) w).alloc _).trans hw1'.out).alloc _) (fun _ _ h => h))).mono ?_
       rintro e w2 ⟨rfl, hr2, he2⟩
       obtain ⟨hlt2, hf2, hc2⟩ := ((((Blk.new w [i64 0, u64 0, i64 0, u64 0, u64 0] 40).ext hw1'.out id).alloc _).ext he2 (fun h => Nat.lt_irrefl _ (hFA'.out _ h))).open_
       obtain ⟨hlt3, hf3, hc3⟩ := ((Blk.new w1 [i64 kd, u64 bl, i64 cl, u64 od, u64 nw] 40).ext he2 (fun h => Nat.lt_irrefl _ (Nat.lt_trans hlt1 (hFA'.out _ h)))).open_
       simp only [CellsAt, Nat.reduceAdd] at hc2 hc3
       have hr2' := Lib.hid hr2; have he2' := Lib.hid he2; clear hr2 he2)
    | (with_reducible refine (hTk'.out _ ?_).mono ?_; · exact (R.keep hB'.out ((((Ext.refl (fun _ => False) w).alloc _).trans hw1'.out).alloc _) (fun _ _ h => h)) |> fun h => R.keep h he2'.out hd0'.out
       rintro e w3 ⟨rfl, hr3, he3⟩
       obtain ⟨hlt4, hf4, hc4⟩ := (((((Blk.new w [i64 0, u64 0, i64 0, u64 0, u64 0] 40).ext hw1'.out id).alloc _).ext he2'.out (fun h => Nat.lt_irrefl _ (hFA'.out _ h))).ext he3 (fun h => Nat.lt_irrefl _ (hF'.out _ h))).open_
       obtain ⟨hlt5, hf5, hc5⟩ := (((Blk.new w1 [i64 kd, u64 bl, i64 cl, u64 od, u64 nw] 40).ext he2'.out (fun h => Nat.lt_irrefl _ (Nat.lt_trans hlt1 (hFA'.out _ h)))).ext he3 (fun h => Nat.lt_irrefl _ (Nat.lt_trans hlt1 (hF'.out _ h)))).open_
       simp only [CellsAt, Nat.reduceAdd] at hc4 hc5
       have hr3' := Lib.hid hr3; have he3' := Lib.hid he3; clear hr3 he3))
  refine bodyPost_ret (v := .tuple #[.agg #[i64 kd, u64 bl, i64 cl, u64 od, u64 nw], u64 g, .bool true]) (by simp [results, Tryd.results66, go_sem, *]) rfl ⟨rfl, ?_⟩
  refine next_fin R hFA'.out hF'.out hd'.out hsz'.out ((((Ext.refl (fun _ => False) w).alloc _).trans hw1'.out).alloc _) ?_ hr2'.out he2'.out hr3'.out he3'.out ?_
  · rw [World.size_alloc]; omega
  · repeat (with_reducible refine Ext.setCell ?_ _ _ (by with_unfolding_all exact .inl rfl))
    exact Ext.refl _ _
attribute [local go_sem] Oper.semAt_some
theorem Steps_c (w : World) (a : Nat) (ty : TypeId) (b : Nat) : Calls Tryd.prog 60 #[ptr a, .iface ty (ptr b)] w fun e w' => e = .returned (.func (.func 95) #[] #[ptr w.heap.size, ptr (w.heap.size + 1)]) ∧ w' = (w.alloc (.cells #[ptr a] 26)).alloc (.cells #[.iface ty (ptr b)] 68) := by
  go_enter Tryd.func60, Tryd.ntmps60
  go_wp2
  go_ret
  exact ⟨rfl, rfl⟩
/-- What hands out the acts, whatever the loop's body does: what is between two rounds is J. -/
theorem Steps1_c (n : Nat) (hn1 : 1 ≤ n) (l B1 B2 a : Nat) (r : Value) (m : World → Nat) (J Je Jx : World → Prop)
    (hc : ∀ W, J W → W.cell? ⟨B1, 0, none⟩ = some (ptr a) ∧ W.cell? ⟨B2, 0, none⟩ = some r)
    (hnext : ∀ W, J W → Calls Tryd.prog 66 #[ptr a, r] W fun e W' =>
      (e = .returned (.tuple #[.agg noAct.vals.toArray, u64 0, .bool false]) ∧ Je (W'.alloc (.cells noAct.vals.toArray 40))) ∨
      ∃ (x : AV) (g : Int), e = .returned (.tuple #[.agg x.vals.toArray, u64 g, .bool true]) ∧
        YieldAt Fence.wide (n - 1) Tryd.prog l #[.agg x.vals.toArray, u64 g] (W'.alloc (.cells x.vals.toArray 40)) fun e W'' => (e = .returned (.bool true) ∧ J W'' ∧ m W'' < m W) ∨ (e = .returned (.bool false) ∧ Jx W''))
    (W : World) (h0 : J W) :
    CallsIn Fence.wide n Tryd.prog 95 #[.func (.yield l) #[] #[], ptr B1, ptr B2] W fun e W' => (∃ v, e = .returned v) ∧ (Je W' ∨ Jx W') := by
  refine callsIn_of_wp Tryd.func95 rfl trivial ?_ rfl
  simp only [Tryd.ntmps95, List.size_toArray, List.length_cons, List.length_nil, Nat.reduceAdd, Nat.reduceSub, Array.replicate_succ, Array.replicate_zero, List.push_toArray, List.append_toArray, List.nil_append, List.cons_append]
  gi_wp2
  gi_loopw [] (fun wr => J wr) (fun wr => m wr)
  case atStart => exact h0
  case round =>
    obtain ⟨hc1, hc2⟩ := hc wr hrel
    have hn := hnext wr hrel
    have hn' := Lib.hid hn; clear hn hnext hc h0
    gi_wp2_with (refine ⟨trivial, ?_⟩; gi_at_call 66; refine (callsIn_wide.2 hn'.out).mono ?_)
    rintro e w1 (⟨rfl, hje⟩ | ⟨⟨kd, bl, cl, od, nw⟩, g, rfl, fn, tmps, assign, body, hy, hR⟩)
    · simp only [noAct, AV.vals] at hje ⊢
      gi_wp2
      refine ⟨fun _ h => (by cases h), ?_⟩
      gi_wp2
      refine bodyPost_ret (results_none rfl _ _ _) rfl ?_
      exact ⟨⟨_, rfl⟩, .inl hje⟩
    · simp only [AV.vals] at hy hR ⊢
      gi_wp2
      refine hR.mono ?_
      rintro e W3 (⟨rfl, hJ3, hm3⟩ | ⟨rfl, hJx3⟩)
      · gi_wp2
        go_roundw
        case rel => exact hJ3
        case measure => exact hm3
      · gi_wp2
        refine bodyPost_ret (results_none rfl _ _ _) rfl ?_
        exact ⟨⟨_, rfl⟩, .inr hJx3⟩
end Go.Proofs.YtlbphffnbhoghaaDoor
