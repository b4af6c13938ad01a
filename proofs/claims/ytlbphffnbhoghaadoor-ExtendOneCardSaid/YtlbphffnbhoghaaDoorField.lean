/- sprocketlaw22.Field: an arena with a desk and a table. -/
import Derived.Test.YtlbphffnbhoghaaDoorRun
namespace Go.Proofs.YtlbphffnbhoghaaDoor
open Go.RowKit
set_option maxRecDepth 100000
set_option linter.unusedVariables false
set_option linter.unusedSimpArgs false

theorem AV.store_ok {b c v : Int} (b0 : 0 ≤ b) (b1 : b < 18446744073709551616) (c0 : 0 ≤ c) (c1 : c < 9223372036854775808) (v0 : 0 ≤ v) (v1 : v < 18446744073709551616) : (aStore b c v).Ok := by
  refine ⟨⟨b0, b1, Int.le_refl 0, by simp [aStore], v0, v1, c0, c1⟩, ?_⟩
  simp [aStore]
theorem ArRep.ext0 {w w' : World} {b : Nat} {A : PA} {F : Nat → Prop} (h : ArRep w b A F) (e : Ext (fun _ => False) w w') : ArRep w' b A F := h.ext e (fun _ _ h => h)
theorem Sys.keep0 {R : Rout} {w w' : World} {a : Nat} {A : PA} {bs : List Nat} {ss : List R.σ} {U : Nat → Prop} (h : Sys R w a A bs ss U) (e : Ext (fun _ => False) w w') : Sys R w' a A bs ss U := h.keep e (fun _ _ h => h)
theorem grow.ge {F : Nat → Prop} {w w' : World} {n : Nat} (h : ∀ k, F k → n ≤ k) (hn : n ≤ w.heap.size) : ∀ k, grow F w w' k → n ≤ k
  | k, .inl hk => h k hk
  | _, .inr hk => Nat.le_trans hn hk.1
def fieldA1 (c n : Int) : PA := (PA.new c).alloc (2 + 2 * n)
def fieldA2 (c n l : Int) : PA := (fieldA1 c n).alloc (tsize l)
def fieldA3 (c n l : Int) : PA := (fieldA2 c n l).put 2 0 l
def fieldA4 (c n l : Int) : PA := (fieldA3 c n l).put 1 0 2
/-- The arena that Field makes. -/
def fieldA (c n l : Int) : PA := (fieldA4 c n l).put 1 1 16
theorem fieldA_blk (c n l : Int) : (fieldA c n l).blk = [(1, ((List.replicate (2 + 2 * n).toNat (0 : Int)).set 0 2).set 1 16), (2, (List.replicate (tsize l).toNat (0 : Int)).set 0 l)] := by
  simp [fieldA, fieldA4, fieldA3, fieldA2, fieldA1, PA.put, PA.alloc, PA.new, setW]
theorem tsize_lo {l : Int} (l0 : 0 ≤ l) (l1 : l ≤ 9) : 16 ≤ tsize l := by
  have := groups_pos l0 l1
  unfold tsize; rw [if_neg (by omega)]; omega
theorem field_has2 (c n : Int) {l : Int} (l0 : 0 ≤ l) (l1 : l ≤ 9) : (fieldA2 c n l).has 2 0 := by
  have := tsize_lo l0 l1
  refine ⟨List.replicate (tsize l).toNat 0, ?_, by decide, by simp; omega⟩
  simp [fieldA2, fieldA1, PA.get, PA.alloc, PA.new, lookW]
theorem field_has3 (c l : Int) {n : Int} (n0 : 1 ≤ n) : (fieldA3 c n l).has 1 0 := by
  refine ⟨List.replicate (2 + 2 * n).toNat 0, ?_, by decide, by simp; omega⟩
  simp [fieldA3, fieldA2, fieldA1, PA.get, PA.put, PA.alloc, PA.new, lookW, setW]
theorem field_has4 (c l : Int) {n : Int} (n0 : 1 ≤ n) : (fieldA4 c n l).has 1 1 := by
  refine ⟨(List.replicate (2 + 2 * n).toNat 0).set 0 2, ?_, by decide, by simp; omega⟩
  simp [fieldA4, fieldA3, fieldA2, fieldA1, PA.get, PA.put, PA.alloc, PA.new, lookW, setW]
theorem Field_c (w : World) (c n l : Int) (n0 : 1 ≤ n) (n1 : n ≤ 64) (l0 : 0 ≤ l) (l1 : l ≤ 9) (hc : 2 + 2 * n + tsize l ≤ c) (hc1 : c ≤ 65536) (hB : Bnd w) :
    Calls Tryd.prog 12 #[i64 c, i64 n, i64 l] w fun e w' => ∃ a, e = .returned (.tuple #[ptr a, .agg #[u64 2, i64 l]]) ∧ (∃ FA, ArRep w' a (fieldA c n l) FA ∧ ∀ k, FA k → w.heap.size ≤ k) ∧ Ext (fun _ => False) w w' := by
  have ht := tsize_lo l0 l1
  have hN := fun W => arena_New_c W c (by omega) hc1
  have hD := fun W (hB : Bnd W) => desk_Size_c W n n0 n1 hB
  have hT := fun W => table_Size_c W l
  have hA1 : ∀ W a F, ArRep W a (PA.new c) F → Calls Tryd.prog 47 #[ptr a, i64 (2 + 2 * n)] W (DoR (u64 1) W a (fieldA1 c n) F) := fun W a F h => Alloc_ok W a (PA.new c) F h (2 + 2 * n) (by omega) (by simp [PA.new]; omega) (by simp [PA.new])
  have hA2 : ∀ W a F, ArRep W a (fieldA1 c n) F → Calls Tryd.prog 47 #[ptr a, i64 (tsize l)] W (DoR (u64 2) W a (fieldA2 c n l) F) := fun W a F h => Alloc_ok W a (fieldA1 c n) F h (tsize l) (by omega) (by simp [fieldA1, PA.alloc, PA.new]; omega) (by simp [fieldA1, PA.alloc, PA.new])
  have hS1 : ∀ W a F, ArRep W a (fieldA2 c n l) F → Calls Tryd.prog 14 #[ptr a, .agg #[i64 2, u64 2, i64 0, u64 0, u64 l]] W (DoR (u64 0) W a (fieldA3 c n l) F) := fun W a F h => Do_store W a (fieldA2 c n l) F h 2 0 l (AV.store_ok (by decide) (by decide) (by decide) (by decide) l0 (by omega)) (field_has2 c n l0 l1)
  have hS2 : ∀ W a F, ArRep W a (fieldA3 c n l) F → Calls Tryd.prog 14 #[ptr a, .agg #[i64 2, u64 1, i64 0, u64 0, u64 2]] W (DoR (u64 0) W a (fieldA4 c n l) F) := fun W a F h => Do_store W a (fieldA3 c n l) F h 1 0 2 (AV.store_ok (by decide) (by decide) (by decide) (by decide) (by decide) (by decide)) (field_has3 c l n0)
  have hS3 : ∀ W a F, ArRep W a (fieldA4 c n l) F → Calls Tryd.prog 14 #[ptr a, .agg #[i64 2, u64 1, i64 1, u64 0, u64 16]] W (DoR (u64 0) W a (fieldA c n l) F) := fun W a F h => Do_store W a (fieldA4 c n l) F h 1 1 16 (AV.store_ok (by decide) (by decide) (by decide) (by decide) (by decide) (by decide)) (field_has4 c l n0)
  have hB' : ∀ o W, Ext (fun _ => False) (w.alloc o) W → Bnd W := fun o W hW => hB.ext (((Ext.refl (fun _ => False) w).alloc o).trans hW) id
  have hN' := Lib.hid hN; have hD' := Lib.hid hD; have hT' := Lib.hid hT; have hA1' := Lib.hid hA1; have hA2' := Lib.hid hA2; have hS1' := Lib.hid hS1; have hS2' := Lib.hid hS2; have hS3' := Lib.hid hS3; have hBx := Lib.hid hB'
  clear hN hD hT hA1 hA2 hS1 hS2 hS3 hB' hB hc
  go_enter Tryd.func12, Tryd.ntmps12
  go_wp2_with (first
    | (go_at_call 46; go_must (refine (hN'.out _).mono ?_); rintro e w1 ⟨rfl, hr1, he1⟩; simp only [World.size_alloc] at hr1; have q1 := Lib.hid (And.intro ((Blk.new w [u64 0, i64 0] 29).ext he1 id) (grow.no (F := fun _ => False) (w := w.alloc (.cells #[u64 0, i64 0] 29)) (w' := w1) (t := w.heap.size) id (by simp))); have hr1' := Lib.hid hr1; have he1' := Lib.hid he1; clear hr1 he1)
    | (go_at_call 48; go_must (refine use_s (hD'.out _ (hBx.out _ _ he1'.out)) ?_))
    | (go_at_call 36; go_must (refine use_s (hT'.out _) ?_))
    | (go_at_call 47; (with_reducible refine (hA1'.out _ _ _ hr1'.out).mono ?_); rintro e w2 ⟨rfl, hr2, he2⟩; have q2 := Lib.hid (And.intro (q1.out.1.ext he2 q1.out.2) (grow.no (w' := w2) q1.out.2 q1.out.1.lt)); have hr2' := Lib.hid hr2; have he2' := Lib.hid he2; clear hr2 he2)
    | (go_at_call 47; (with_reducible refine (hA2'.out _ _ _ hr2'.out).mono ?_); rintro e w3 ⟨rfl, hr3, he3⟩; have q3 := Lib.hid (And.intro (q2.out.1.ext he3 q2.out.2) (grow.no (w' := w3) q2.out.2 q2.out.1.lt)); have n3 := Lib.hid (fun h => Nat.lt_irrefl _ (hr3.lt w3.heap.size h)); have hr3' := Lib.hid hr3; have he3' := Lib.hid he3; clear hr3 he3)
    | (go_at_call 14; (with_reducible refine (hS1'.out _ _ _ (hr3'.out.ext0 ((Ext.refl (fun _ => False) _).alloc _))).mono ?_); rintro e w4 ⟨rfl, hr4, he4⟩; have q4 := Lib.hid (And.intro ((q3.out.1.alloc (.cells #[u64 2, i64 l] 29)).ext he4 q3.out.2) (grow.no (w' := w4) q3.out.2 (q3.out.1.alloc (.cells #[u64 2, i64 l] 29)).lt)); have b4 := (Blk.new w3 [u64 2, i64 l] 29).ext he4 n3.out; obtain ⟨hlt4, hf4, hc4⟩ := b4.open_; simp only [CellsAt, Nat.reduceAdd] at hc4; have n4 := Lib.hid (grow.no (w := w3.alloc (.cells #[u64 2, i64 l] 29)) (w' := w4) n3.out (by rw [World.size_alloc]; exact Nat.lt_succ_self w3.heap.size)); have b4' := Lib.hid b4; have hr4' := Lib.hid hr4; have he4' := Lib.hid he4; clear hr4 he4 b4)
    | (go_at_call 14; (with_reducible refine (hS2'.out _ _ _ hr4'.out).mono ?_); rintro e w5 ⟨rfl, hr5, he5⟩; have q5 := Lib.hid (And.intro (q4.out.1.ext he5 q4.out.2) (grow.no (w' := w5) q4.out.2 q4.out.1.lt)); have b5 := b4'.out.ext he5 n4.out; obtain ⟨hlt5, hf5, hc5⟩ := b5.open_; simp only [CellsAt, Nat.reduceAdd] at hc5; have n5 := Lib.hid (grow.no (w' := w5) n4.out b4'.out.lt); have b5' := Lib.hid b5; have hr5' := Lib.hid hr5; have he5' := Lib.hid he5; clear hr5 he5 b5)
    | (go_at_call 14; (with_reducible refine (hS3'.out _ _ _ hr5'.out).mono ?_); rintro e w6 ⟨rfl, hr6, he6⟩; have q6 := q5.out.1.ext he6 q5.out.2; have b6 := b5'.out.ext he6 n5.out; obtain ⟨hlt6, hf6, hc6⟩ := b6.open_; simp only [CellsAt, Nat.reduceAdd] at hc6; obtain ⟨hlt7, hf7, hc7⟩ := q6.open_; simp only [CellsAt, Nat.reduceAdd] at hc7; have b6' := Lib.hid b6; have q6' := Lib.hid (And.intro q6 (grow.no (w' := w6) q5.out.2 q5.out.1.lt)); have hr6' := Lib.hid hr6; have he6' := Lib.hid he6; clear hr6 he6 b6 q6))
  have hne1 : ¬ w.heap.size = w3.heap.size := fun h => by have := he1'.out.size; have := he2'.out.size; have := he3'.out.size; simp at *; omega
  have hne2 : ¬ w3.heap.size = w.heap.size := fun h => hne1 h.symm
  go_region_held3 (fun w' => w'.cell? ⟨w3.heap.size, 0, none⟩ = some (u64 2) ∧ w'.cell? ⟨w3.heap.size, 1, none⟩ = some (i64 l)) (go_keep) (fail)
  go_wp2
  refine bodyPost_ret (v := .tuple #[ptr (w.heap.size + 1 + 1), .agg #[u64 2, i64 l]]) (by simp [results, Tryd.results12, go_sem, *]) rfl ⟨_, rfl, ?_, ?_⟩
  · have e7 : Ext (fun k => k = w.heap.size) w6 (((w6.setCell ⟨w.heap.size, 0, none⟩ (u64 2)).setCell ⟨w.heap.size, 1, none⟩ (i64 l)).drew) := ((((Ext.refl (fun k => k = w.heap.size) w6).setCell ⟨w.heap.size, 0, none⟩ (u64 2) (.inl rfl)).setCell ⟨w.heap.size, 1, none⟩ (i64 l) (.inl rfl)).drew)
    refine ⟨_, hr6'.out.ext e7 (fun k hk hk' => q6'.out.2 (hk' ▸ hk)), ?_⟩
    have s1 := he1'.out.size; have s2 := he2'.out.size; have s3 := he3'.out.size; have s4 := he4'.out.size; have s5 := he5'.out.size
    rw [World.size_alloc] at s1 s4
    exact grow.ge (grow.ge (grow.ge (grow.ge (grow.ge (grow.ge (fun _ h => h.elim) (by simp)) (by omega)) (by omega)) (by rw [World.size_alloc]; omega)) (by omega)) (by omega)
  · have s1 := he1'.out.size; have s2 := he2'.out.size; have s3 := he3'.out.size; have s4 := he4'.out.size; have s5 := he5'.out.size
    rw [World.size_alloc] at s1 s4
    have g1 := grow.ge (F := fun _ => False) (w := w.alloc (.cells #[u64 0, i64 0] 29)) (w' := w1) (n := w.heap.size) (fun _ h => h.elim) (by simp)
    have g2 := grow.ge (w := w1) (w' := w2) g1 (by omega)
    have g3 := grow.ge (w := w2) (w' := w3) g2 (by omega)
    have g4 := grow.ge (w := w3.alloc (.cells #[u64 2, i64 l] 29)) (w' := w4) g3 (by rw [World.size_alloc]; omega)
    have g5 := grow.ge (w := w4) (w' := w5) g4 (by omega)
    have e6 := (((((((Ext.refl (fun _ => False) w).alloc (.cells #[u64 0, i64 0] 29)).trans he1'.out).trans' he2'.out (fun k h => .inr (g1 k h))).trans' he3'.out (fun k h => .inr (g2 k h))).alloc (.cells #[u64 2, i64 l] 29)).trans' he4'.out (fun k h => .inr (g3 k h))).trans' he5'.out (fun k h => .inr (g4 k h)) |>.trans' he6'.out (fun k h => .inr (g5 k h))
    exact ((e6.setCell _ _ (.inr (Nat.le_refl _))).setCell _ _ (.inr (Nat.le_refl _))).drew
end Go.Proofs.YtlbphffnbhoghaaDoor
