/- The program's small functions on numbers: what each hands back, without a change of memory that lay before. -/
import Derived.Test.YtlbphffnbhoghaaDoorProg
import Derived.Test.YtlbphffnbhoghaaDoorBase
namespace Go.Proofs.YtlbphffnbhoghaaDoor
open Go.RowKit

abbrev u64 (x : Int) : Value := .int .u64 x
abbrev i64 (x : Int) : Value := .int .i64 x
abbrev ptr (b : Nat) : Value := .pointer (some ⟨b, 0, none⟩)
def RetS (v : Value) (w : World) (e : Ending) (w' : World) : Prop := e = .returned v ∧ w' = w
def RetD (v : Value) (w : World) (e : Ending) (w' : World) : Prop := e = .returned v ∧ ∃ n, w' = w.drewN n
def RetN (v : Value) (w : World) (e : Ending) (w' : World) : Prop := e = .returned v ∧ Ext (fun _ => False) w w'

theorem use_s {f : FuncId} {args : Array Value} {w : World} {v : Value} {R : Ending → World → Prop} (h : Calls Tryd.prog f args w (RetS v w)) (k : R (.returned v) w) : Calls Tryd.prog f args w R :=
  h.mono (by rintro e w' ⟨rfl, rfl⟩; exact k)
theorem use_d {f : FuncId} {args : Array Value} {w : World} {v : Value} {R : Ending → World → Prop} (h : Calls Tryd.prog f args w (RetD v w)) (k : ∀ n, R (.returned v) (w.drewN n)) : Calls Tryd.prog f args w R :=
  h.mono (by rintro e w' ⟨rfl, n, rfl⟩; exact k n)
theorem use_n {f : FuncId} {args : Array Value} {w : World} {v : Value} {R : Ending → World → Prop} (h : Calls Tryd.prog f args w (RetN v w)) (k : ∀ w', Ext (fun _ => False) w w' → R (.returned v) w') : Calls Tryd.prog f args w R :=
  h.mono (by rintro e w' ⟨rfl, h⟩; exact k _ h)
theorem RetS.same {f : FuncId} {args : Array Value} {w : World} {v : Value} (h : Calls Tryd.prog f args w (RetS v w)) : Calls Tryd.prog f args w fun e w' => e = .returned v ∧ w' = w := h
theorem RetS.d {v : Value} {w : World} {e : Ending} {w' : World} (h : RetS v w e w') : RetD v w e w' := ⟨h.1, 0, h.2⟩
theorem RetS.n {v : Value} {w : World} {e : Ending} {w' : World} (h : RetS v w e w') : RetN v w e w' := ⟨h.1, by obtain ⟨_, rfl⟩ := h; exact Ext.refl _ _⟩
theorem boolv {a b : Bool} (h : a = true ↔ b = true) : Ending.returned (.bool a) = .returned (.bool b) := by rw [Bool.eq_iff_iff.2 h]
theorem intv {k : IntKind} {a b : Int} (h : a = b) : Ending.returned (.int k a) = .returned (.int k b) := by rw [h]

theorem bits_and_mod (x m n : Int) (h0 : 0 ≤ x) (h1 : x < 18446744073709551616) (hm : m.toNat = n.toNat - 1) (hmm : 0 ≤ m ∧ m < 18446744073709551616) (hn : 0 ≤ n) (hp : ∀ y : Nat, y &&& (n.toNat - 1) = y % n.toNat) : bits BinOp.and IntKind.u64 x m = x % n := by
  obtain ⟨k, rfl⟩ := Int.eq_ofNat_of_zero_le h0
  obtain ⟨j, rfl⟩ := Int.eq_ofNat_of_zero_le hmm.1
  rw [u64_and_nat k j (by omega) (by omega), show j = n.toNat - 1 by simpa using hm, hp]
  obtain ⟨l, rfl⟩ := Int.eq_ofNat_of_zero_le hn
  simp
theorem bits7 (x : Int) (h0 : 0 ≤ x) (h1 : x < 18446744073709551616) : bits BinOp.and IntKind.u64 x 7 = x % 8 := bits_and_mod x 7 8 h0 h1 rfl (by decide) (by decide) nat_mask3
theorem bits255 (x : Int) (h0 : 0 ≤ x) (h1 : x < 18446744073709551616) : bits BinOp.and IntKind.u64 x 255 = x % 256 := bits_and_mod x 255 256 h0 h1 rfl (by decide) (by decide) nat_mask8
theorem bits7i (m : Int) (hm : 0 ≤ m) (hm' : m < 8) : bits BinOp.and IntKind.i64 m 7 = m := by
  have : m = 0 ∨ m = 1 ∨ m = 2 ∨ m = 3 ∨ m = 4 ∨ m = 5 ∨ m = 6 ∨ m = 7 := by omega
  rcases this with rfl | rfl | rfl | rfl | rfl | rfl | rfl | rfl <;> decide +kernel

theorem tag_Block_c (x : Int) (_h0 : 0 ≤ x) (_h1 : x < 18446744073709551616) (w : World) : Calls Tryd.prog 35 #[u64 x] w (RetS (u64 (x / 8)) w) := by
  go_enter Tryd.func35, Tryd.ntmps35
  go_wp2
  go_ret
  exact ⟨rfl, rfl⟩
theorem tag_Mark_c (x : Int) (h0 : 0 ≤ x) (h1 : x < 18446744073709551616) (w : World) : Calls Tryd.prog 103 #[u64 x] w (RetS (i64 (x % 8)) w) := by
  have e1 := bits7 x h0 h1
  go_enter Tryd.func103, Tryd.ntmps103
  go_wp2
  go_ret
  exact ⟨rfl, rfl⟩
theorem tag_Make_c (x m : Int) (h0 : 0 ≤ x) (h1 : x < 2305843009213693952) (hm : 0 ≤ m) (hm' : m < 8) (w : World) : Calls Tryd.prog 101 #[u64 x, i64 m] w (RetS (u64 (x * 8 + m)) w) := by
  have e1 := bits7i m hm hm'
  go_enter Tryd.func101, Tryd.ntmps101
  go_wp2
  go_ret
  exact ⟨rfl, rfl⟩
theorem tag_Again_c (x m : Int) (h0 : 0 ≤ x) (h1 : x < 18446744073709551616) (hm : 0 ≤ m) (hm' : m < 8) (w : World) : Calls Tryd.prog 100 #[u64 x, i64 m] w (RetS (u64 (x / 8 * 8 + m)) w) := by
  have e1 := bits7i m hm hm'
  go_enter Tryd.func100, Tryd.ntmps100
  go_wp2
  go_ret
  exact ⟨rfl, rfl⟩
theorem tag_Of_c (x : Int) (h0 : 0 ≤ x) (h1 : x < 18446744073709551616) (w : World) : Calls Tryd.prog 120 #[u64 x] w (RetN (.agg #[u64 (x / 8), i64 (x % 8)]) w) := by
  have e1 := bits7 x h0 h1
  go_enter Tryd.func120, Tryd.ntmps120
  go_wp2
  exact bodyPost_ret (v := .agg #[u64 (x / 8), i64 (x % 8)]) (by simp [results, Tryd.results120, go_sem]) rfl ⟨rfl, (by repeat (first | assumption | exact Ext.refl _ _ | apply Ext.alloc))⟩
def holdsB (x : Int) : Bool := decide (8 ≤ x ∧ 1 ≤ x % 8 ∧ x % 8 ≤ 4)
def freshB (x : Int) : Bool := decide (8 ≤ x ∧ 1 ≤ x % 8 ∧ x % 8 ≤ 2)
theorem holdsB_iff (x : Int) : holdsB x = true ↔ 8 ≤ x ∧ 1 ≤ x % 8 ∧ x % 8 ≤ 4 := by simp [holdsB]
theorem freshB_iff (x : Int) : freshB x = true ↔ 8 ≤ x ∧ 1 ≤ x % 8 ∧ x % 8 ≤ 2 := by simp [freshB]
theorem tag_Holds_c (x : Int) (h0 : 0 ≤ x) (h1 : x < 18446744073709551616) (w : World) : Calls Tryd.prog 111 #[u64 x] w (RetN (.bool (holdsB x)) w) := by
  go_enter Tryd.func111, Tryd.ntmps111
  go_wp2_with (go_at_call 120; refine use_n (tag_Of_c x h0 h1 _) (fun w1 hw1 => ?_))
  all_goals (go_ret; refine ⟨boolv ?_, (by repeat (first | assumption | exact Ext.refl _ _ | apply Ext.alloc))⟩; rw [holdsB_iff]; simp; try omega)
theorem tag_Fresh_c (x : Int) (h0 : 0 ≤ x) (h1 : x < 18446744073709551616) (w : World) : Calls Tryd.prog 88 #[u64 x] w (RetN (.bool (freshB x)) w) := by
  go_enter Tryd.func88, Tryd.ntmps88
  go_wp2_with (first | (go_at_call 111; refine use_n (tag_Holds_c x h0 h1 _) (fun w1 hw1 => ?_)) | (go_at_call 103; refine use_s (tag_Mark_c x h0 h1 _) ?_))
  all_goals (simp only [holdsB_iff] at *; go_ret; refine ⟨boolv ?_, (by repeat (first | assumption | exact Ext.refl _ _ | apply Ext.alloc))⟩; rw [freshB_iff]; simp; try omega)

/-- The desk's bounds, as the program lays them (package-level variable 0). -/
def Bnd (w : World) : Prop := w.cell? ⟨0, 0, none⟩ = some (i64 1) ∧ w.cell? ⟨0, 1, none⟩ = some (i64 64) ∧ w.cell? ⟨0, 2, none⟩ = some (i64 1) ∧ w.cell? ⟨0, 3, none⟩ = some (i64 64) ∧ 0 < w.heap.size
theorem Bnd.ext {S : Nat → Prop} {w w' : World} (h : Bnd w) (e : Ext S w w') (hS : ¬ S 0) : Bnd w' :=
  ⟨(e.cell h.2.2.2.2 hS 0).trans h.1, (e.cell h.2.2.2.2 hS 1).trans h.2.1, (e.cell h.2.2.2.2 hS 2).trans h.2.2.1, (e.cell h.2.2.2.2 hS 3).trans h.2.2.2.1, Nat.lt_of_lt_of_le h.2.2.2.2 e.size⟩
def within (n : Int) : Bool := decide (1 ≤ n ∧ n ≤ 64)
theorem within_iff (n : Int) : within n = true ↔ 1 ≤ n ∧ n ≤ 64 := by simp [within]
theorem desk_within0_c (w : World) (n : Int) (hB : Bnd w) : Calls Tryd.prog 92 #[i64 0, i64 n] w (RetS (.bool (within n)) w) := by
  obtain ⟨c0, c1, c2, c3, _⟩ := hB
  go_enter Tryd.func92, Tryd.ntmps92
  go_wp2
  all_goals (go_ret; refine ⟨boolv ?_, rfl⟩; rw [within_iff]; simp; try omega)
theorem desk_within1_c (w : World) (n : Int) (hB : Bnd w) : Calls Tryd.prog 92 #[i64 1, i64 n] w (RetS (.bool (within n)) w) := by
  obtain ⟨c0, c1, c2, c3, _⟩ := hB
  go_enter Tryd.func92, Tryd.ntmps92
  go_wp2
  all_goals (go_ret; refine ⟨boolv ?_, rfl⟩; rw [within_iff]; simp; try omega)
theorem desk_within_c (w : World) (i n : Int) (hi : i = 0 ∨ i = 1) (hB : Bnd w) : Calls Tryd.prog 92 #[i64 i, i64 n] w (RetS (.bool (within n)) w) := by
  rcases hi with rfl | rfl
  · exact desk_within0_c w n hB
  · exact desk_within1_c w n hB
structure Site where
  desk : Int
  thread : Int
  threads : Int
  keep : Int
  seed : Int
def Site.vals (s : Site) : List Value := [u64 s.desk, i64 s.thread, i64 s.threads, i64 s.keep, u64 s.seed]
structure Site.Ok (s : Site) : Prop where
  d0 : 0 < s.desk
  d1 : s.desk < 18446744073709551616
  n1 : 1 ≤ s.threads
  n2 : s.threads ≤ 64
  k1 : 1 ≤ s.keep
  k2 : s.keep ≤ 64
  t0 : 0 ≤ s.thread
  t1 : s.thread < s.threads
theorem desk_Right_c (w : World) (s : Site) (h : s.Ok) (hB : Bnd w) : Calls Tryd.prog 56 #[.agg s.vals.toArray] w (RetN (.bool true) w) := by
  obtain ⟨d, t, n, k, sd⟩ := s
  obtain ⟨d0, d1, n1, n2, k1, k2, t0, t1⟩ := h
  have wn : within n = true := (within_iff n).2 ⟨n1, n2⟩
  have wk : within k = true := (within_iff k).2 ⟨k1, k2⟩
  have hB1 : Bnd (w.alloc (.cells #[u64 d, i64 t, i64 n, i64 k, u64 sd] 33)) := hB.ext ((Ext.refl (fun _ => False) _).alloc _) id
  have d2 : (d != 0) = true := by rw [bne_iff_ne]; simp only at d0; omega
  simp only [Site.vals] at *
  go_enter Tryd.func56, Tryd.ntmps56
  go_wp2_with (go_at_call 92; with_reducible refine use_s (desk_within_c _ _ _ (by first | exact .inl rfl | exact .inr rfl) hB1) ?_)
  go_ret
  exact ⟨rfl, (Ext.refl _ _).alloc _⟩
theorem desk_cell_c (w : World) (t b : Int) (h0 : 0 ≤ t) (h1 : t < 64) (b0 : 0 ≤ b) (b1 : b ≤ 1) : Calls Tryd.prog 71 #[i64 t, i64 b] w (RetS (i64 (2 + 2 * t + b)) w) := by
  go_enter Tryd.func71, Tryd.ntmps71
  go_wp2
  go_ret
  exact ⟨rfl, rfl⟩
theorem desk_TableCell_c (w : World) (t : Int) (h0 : 0 ≤ t) (h1 : t < 64) : Calls Tryd.prog 41 #[i64 t] w (RetS (i64 (2 + 2 * t)) w) := by
  go_enter Tryd.func41, Tryd.ntmps41
  go_wp2
  go_ret
  exact ⟨rfl, rfl⟩
theorem desk_BoxCell_c (w : World) (t : Int) (h0 : 0 ≤ t) (h1 : t < 64) : Calls Tryd.prog 27 #[i64 t] w (RetS (i64 (2 + 2 * t + 1)) w) := by
  go_enter Tryd.func27, Tryd.ntmps27
  go_wp2
  go_ret
  exact ⟨rfl, rfl⟩
theorem desk_Size_c (w : World) (n : Int) (h0 : 1 ≤ n) (h1 : n ≤ 64) (hB : Bnd w) : Calls Tryd.prog 48 #[i64 n] w (RetS (i64 (2 + 2 * n)) w) := by
  have wn : within n = true := (within_iff n).2 ⟨h0, h1⟩
  go_enter Tryd.func48, Tryd.ntmps48
  go_wp2_with (go_at_call 92; with_reducible refine use_s (desk_within_c _ _ _ (by first | exact .inl rfl | exact .inr rfl) hB) ?_)
  go_ret
  exact ⟨rfl, rfl⟩
-- route, table
def groups (log : Int) : Int := if 0 ≤ log ∧ log ≤ 9 then 2 ^ log.toNat else 0
theorem groups_pos {log : Int} (h0 : 0 ≤ log) (h1 : log ≤ 9) : 1 ≤ groups log ∧ groups log ≤ 512 := by
  unfold groups
  rw [if_pos ⟨h0, h1⟩]
  have : log.toNat = 0 ∨ log.toNat = 1 ∨ log.toNat = 2 ∨ log.toNat = 3 ∨ log.toNat = 4 ∨ log.toNat = 5 ∨ log.toNat = 6 ∨ log.toNat = 7 ∨ log.toNat = 8 ∨ log.toNat = 9 := by omega
  rcases this with h | h | h | h | h | h | h | h | h | h <;> rw [h] <;> decide
theorem groups_bd (log : Int) : 0 ≤ groups log ∧ groups log ≤ 512 := by
  by_cases h : 0 ≤ log ∧ log ≤ 9
  · have := groups_pos h.1 h.2; omega
  · unfold groups; rw [if_neg h]; decide
theorem groups_zero {log : Int} : groups log = 0 ↔ ¬ (0 ≤ log ∧ log ≤ 9) := by
  by_cases h : 0 ≤ log ∧ log ≤ 9
  · have := groups_pos h.1 h.2; simp [h]; omega
  · rw [groups, if_neg h]; simp only [h, not_false_iff]
theorem route_Groups_c (w : World) (log : Int) : Calls Tryd.prog 76 #[i64 log] w (RetS (i64 (groups log)) w) := by
  by_cases h : 0 ≤ log ∧ log ≤ 9
  · have : log = 0 ∨ log = 1 ∨ log = 2 ∨ log = 3 ∨ log = 4 ∨ log = 5 ∨ log = 6 ∨ log = 7 ∨ log = 8 ∨ log = 9 := by omega
    rcases this with rfl | rfl | rfl | rfl | rfl | rfl | rfl | rfl | rfl | rfl
    all_goals
      go_enter Tryd.func76, Tryd.ntmps76
      go_wp2
      go_ret
      exact ⟨rfl, rfl⟩
  · have e : groups log = 0 := groups_zero.2 h
    have e' := Lib.hid e; clear e
    by_cases h' : log < 0
    · go_enter Tryd.func76, Tryd.ntmps76
      go_wp2
      go_ret
      rw [e'.out]
      exact ⟨rfl, rfl⟩
    · have h9 : 9 < log := by omega
      go_enter Tryd.func76, Tryd.ntmps76
      go_wp2
      go_ret
      rw [e'.out]
      exact ⟨rfl, rfl⟩
def tsize (log : Int) : Int := if groups log = 0 then 0 else 7 + 9 * groups log
theorem table_Size_c (w : World) (log : Int) : Calls Tryd.prog 36 #[i64 log] w (RetS (i64 (tsize log)) w) := by
  have hb := groups_bd log
  by_cases h : groups log = 0
  · have e : tsize log = 0 := by unfold tsize; rw [if_pos h]
    have e' := Lib.hid e; clear e
    have h' := Lib.hid h
    go_enter Tryd.func36, Tryd.ntmps36
    go_wp2_with (go_at_call 76; with_reducible refine use_s (route_Groups_c _ _) ?_)
    go_ret
    rw [e'.out]
    exact ⟨rfl, rfl⟩
  · have e : tsize log = 7 + groups log + 8 * groups log := by unfold tsize; rw [if_neg h]; omega
    have e' := Lib.hid e; clear e
    go_enter Tryd.func36, Tryd.ntmps36
    go_wp2_with (go_at_call 76; with_reducible refine use_s (route_Groups_c _ _) ?_)
    go_ret
    rw [e'.out]
    exact ⟨rfl, rfl⟩
theorem table_GroupCell_c (w : World) (log g : Int) (h0 : 0 ≤ g) (h1 : g < groups log) : Calls Tryd.prog 105 #[i64 log, i64 g] w (RetS (i64 (7 + g)) w) := by
  have hb := groups_bd log
  go_enter Tryd.func105, Tryd.ntmps105
  go_wp2_with (go_at_call 76; with_reducible refine use_s (route_Groups_c _ _) ?_)
  go_ret
  exact ⟨rfl, rfl⟩
theorem table_SlotCell_c (w : World) (log g k : Int) (h0 : 0 ≤ g) (h1 : g < groups log) (k0 : 0 ≤ k) (k1 : k < 8) : Calls Tryd.prog 81 #[i64 log, i64 g, i64 k] w (RetS (i64 (7 + groups log + 8 * g + k)) w) := by
  have hb := groups_bd log
  go_enter Tryd.func81, Tryd.ntmps81
  go_wp2_with (first | (go_at_call 76; with_reducible refine use_s (route_Groups_c _ _) ?_) | (go_at_call 105; with_reducible refine use_s (table_GroupCell_c _ _ _ h0 h1) ?_))
  go_ret
  exact ⟨intv (by omega), rfl⟩
theorem table_SlotCell_no (w : World) (log g k : Int) (h : g < 0 ∨ groups log ≤ g) : Calls Tryd.prog 81 #[i64 log, i64 g, i64 k] w (RetS (i64 (-1)) w) := by
  have hb := groups_bd log
  rcases h with h | h
  · go_enter Tryd.func81, Tryd.ntmps81
    go_wp2_with (first | (go_at_call 76; with_reducible refine use_s (route_Groups_c _ _) ?_) | go_in)
    all_goals (go_ret; exact ⟨rfl, rfl⟩)
  · go_enter Tryd.func81, Tryd.ntmps81
    go_wp2_with (first | (go_at_call 76; with_reducible refine use_s (route_Groups_c _ _) ?_) | go_in)
    all_goals (go_ret; exact ⟨rfl, rfl⟩)
theorem table_Right_c (w : World) (b log : Int) (hb : 0 < b) (h0 : 0 ≤ log) (h1 : log ≤ 9) : Calls Tryd.prog 57 #[.agg #[u64 b, i64 log]] w (RetN (.bool true) w) := by
  have hg := groups_pos h0 h1
  have d2 : (b != 0) = true := by rw [bne_iff_ne]; omega
  go_enter Tryd.func57, Tryd.ntmps57
  go_wp2_with (go_at_call 76; with_reducible refine use_s (route_Groups_c _ _) ?_)
  go_ret
  exact ⟨boolv (by simp; omega), (Ext.refl _ _).alloc _⟩
-- pack, box, lane
def many (n : Int) : Int := (n + 7) / 8
theorem pack_Many_c (w : World) (n : Int) (h0 : 0 ≤ n) (h1 : n ≤ 1000000) : Calls Tryd.prog 122 #[i64 n] w (RetS (i64 (many n)) w) := by
  go_enter Tryd.func122, Tryd.ntmps122
  go_wp2
  all_goals (go_ret; exact ⟨intv (by unfold many; omega), rfl⟩)
theorem lane_Byte_c (w : World) (x i : Int) (h0 : 0 ≤ x) (h1 : x < 18446744073709551616) (i0 : 0 ≤ i) (i1 : i < 8) : Calls Tryd.prog 135 #[u64 x, i64 i] w (RetS (i64 (x / 256 ^ i.toNat % 256)) w) := by
  have : i = 0 ∨ i = 1 ∨ i = 2 ∨ i = 3 ∨ i = 4 ∨ i = 5 ∨ i = 6 ∨ i = 7 := by omega
  rcases this with rfl | rfl | rfl | rfl | rfl | rfl | rfl | rfl
  all_goals
    go_enter Tryd.func135, Tryd.ntmps135
    go_wp2
    go_ret
    exact ⟨intv (by rw [bits255 _ (by omega) (by omega)]; simp [wrap64]; omega), rfl⟩
def lenK (x : Int) : Int := if x % 256 < 16 then x % 256 else 16
def lenV (x : Int) : Int := if x / 256 % 256 < 24 then x / 256 % 256 else 24
theorem lenK_bd (x : Int) : 0 ≤ lenK x ∧ lenK x ≤ 16 := by unfold lenK; split <;> omega
theorem lenV_bd (x : Int) : 0 ≤ lenV x ∧ lenV x ≤ 24 := by unfold lenV; split <;> omega
theorem box_Lens_c (w : World) (x : Int) (h0 : 0 ≤ x) (h1 : x < 18446744073709551616) : Calls Tryd.prog 121 #[u64 x] w (RetS (.tuple #[i64 (lenK x), i64 (lenV x)]) w) := by
  have e1 := bits255 x h0 h1
  have e2 := bits255 (x / 256) (by omega) (by omega)
  have e3 : wrap64 (x % 256) = x % 256 := by unfold wrap64; omega
  have e4 : wrap64 (x / 256 % 256) = x / 256 % 256 := by unfold wrap64; omega
  go_enter Tryd.func121, Tryd.ntmps121
  go_wp2
  all_goals (go_ret2; refine ⟨?_, rfl⟩; unfold lenK lenV; simp; try omega)
def boxSize (x : Int) : Int := 1 + many (lenK x) + many (lenV x)
theorem boxSize_bd (x : Int) : 1 ≤ boxSize x ∧ boxSize x ≤ 6 := by
  have := lenK_bd x; have := lenV_bd x; unfold boxSize many; omega
theorem box_Size_c (w : World) (x : Int) (h0 : 0 ≤ x) (h1 : x < 18446744073709551616) : Calls Tryd.prog 119 #[u64 x] w (RetS (i64 (boxSize x)) w) := by
  have hk := lenK_bd x
  have hv := lenV_bd x
  have m1 : 0 ≤ many (lenK x) ∧ many (lenK x) ≤ 2 := by unfold many; omega
  have m2 : 0 ≤ many (lenV x) ∧ many (lenV x) ≤ 3 := by unfold many; omega
  go_enter Tryd.func119, Tryd.ntmps119
  go_wp2_with (first | (go_at_call 121; with_reducible refine use_s (box_Lens_c _ _ h0 h1) ?_) | (go_at_call 122; with_reducible refine use_s (pack_Many_c _ _ (by omega) (by omega)) ?_))
  all_goals (go_ret; exact ⟨rfl, rfl⟩)
theorem edit_keyed_c (w : World) (k : Int) : Calls Tryd.prog 58 #[i64 k] w (RetS (.bool (decide (1 ≤ k ∧ k ≤ 7))) w) := by
  go_enter Tryd.func58, Tryd.ntmps58
  go_wp2
  all_goals (go_ret; exact ⟨boolv (by simp; try omega), rfl⟩)
theorem edit_writes_c (w : World) (k : Int) : Calls Tryd.prog 109 #[i64 k] w (RetS (.bool (decide (2 ≤ k ∧ k ≤ 5))) w) := by
  go_enter Tryd.func109, Tryd.ntmps109
  go_wp2
  all_goals (go_ret; exact ⟨boolv (by simp; try omega), rfl⟩)
theorem sweep_when_c (w : World) (b : Bool) (x y : Int) : Calls Tryd.prog 102 #[.bool b, i64 x, i64 y] w (RetS (i64 (if b then x else y)) w) := by
  cases b
  all_goals
    go_enter Tryd.func102, Tryd.ntmps102
    go_wp2
    go_ret
    exact ⟨rfl, rfl⟩
-- acts
structure AV where
  kind : Int
  block : Int
  cell : Int
  old : Int
  new : Int
  deriving DecidableEq
def AV.vals (a : AV) : List Value := [i64 a.kind, u64 a.block, i64 a.cell, u64 a.old, u64 a.new]
abbrev noAct : AV := ⟨0, 0, 0, 0, 0⟩
def aLoad (b c : Int) : AV := ⟨1, b, c, 0, 0⟩
def aStore (b c v : Int) : AV := ⟨2, b, c, 0, v⟩
def aCas (b c o v : Int) : AV := ⟨3, b, c, o, v⟩
def aAdd (b c v : Int) : AV := ⟨4, b, c, 0, v⟩
def aAlloc (n : Int) : AV := ⟨5, 0, n, 0, 0⟩
def aFree (b : Int) : AV := ⟨6, b, 0, 0, 0⟩
/-- An act that may be, with words in range. -/
def AV.Ok (a : AV) : Prop := (0 ≤ a.block ∧ a.block < 18446744073709551616 ∧ 0 ≤ a.old ∧ a.old < 18446744073709551616 ∧ 0 ≤ a.new ∧ a.new < 18446744073709551616 ∧ 0 ≤ a.cell ∧ a.cell < 9223372036854775808) ∧
  ((a.kind = 1 ∧ a.old = 0 ∧ a.new = 0) ∨ (a.kind = 2 ∧ a.old = 0) ∨ a.kind = 3 ∨ (a.kind = 4 ∧ a.old = 0) ∨ (a.kind = 5 ∧ a.block = 0 ∧ a.old = 0 ∧ a.new = 0 ∧ 1 ≤ a.cell) ∨ (a.kind = 6 ∧ a.cell = 0 ∧ a.old = 0 ∧ a.new = 0))
theorem act_Right_c (w : World) (a : AV) (h : a.Ok) : Calls Tryd.prog 51 #[.agg a.vals.toArray] w (RetN (.bool true) w) := by
  obtain ⟨k, b, c, o, n⟩ := a
  obtain ⟨⟨b0, b1, o0, o1, n0, n1, c0, c1⟩, h⟩ := h
  simp only [AV.vals] at *
  rcases h with ⟨rfl, rfl, rfl⟩ | ⟨rfl, rfl⟩ | rfl | ⟨rfl, rfl⟩ | ⟨rfl, rfl, rfl, rfl, h⟩ | ⟨rfl, rfl, rfl, rfl⟩
  all_goals
    go_enter Tryd.func51, Tryd.ntmps51
    go_wp2
    go_ret
    exact ⟨rfl, (Ext.refl _ _).alloc _⟩
end Go.Proofs.YtlbphffnbhoghaaDoor
