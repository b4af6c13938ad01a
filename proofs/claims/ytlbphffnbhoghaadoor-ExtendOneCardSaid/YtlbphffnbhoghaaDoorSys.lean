/- An arena with routines, driven: what lies where, and how an act turns it. -/
import Derived.Test.YtlbphffnbhoghaaDoorDrive
namespace Go.Proofs.YtlbphffnbhoghaaDoor
open Go.RowKit
set_option maxRecDepth 100000
set_option linter.unusedVariables false
set_option linter.unusedSimpArgs false

theorem getD_mem_range {ws : List Int} {i : Nat} (h : ∀ x ∈ ws, 0 ≤ x ∧ x < 18446744073709551616) : 0 ≤ ws.getD i 0 ∧ ws.getD i 0 < 18446744073709551616 := by
  rw [List.getD_eq_getElem?_getD]
  cases hh : ws[i]? with
  | none => exact ⟨by simp, by simp⟩
  | some x => exact h x (List.mem_of_getElem? hh)
theorem lookW_mem {k : Int} : ∀ {l : List (Int × List Int)} {ws : List Int}, lookW k l = some ws → (k, ws) ∈ l
  | [], _, h => by cases h
  | p :: l, ws, h => by
    simp only [lookW] at h
    by_cases hk : k = p.1
    · rw [if_pos hk] at h
      cases h; subst hk; exact List.mem_cons_self
    · rw [if_neg hk] at h
      exact List.mem_cons_of_mem _ (lookW_mem h)
theorem PA.Ok.rd {A : PA} (h : A.Ok) (k i : Int) : 0 ≤ A.rd k i ∧ A.rd k i < 18446744073709551616 := by
  unfold PA.rd
  cases hh : A.get k with
  | none => simp
  | some ws => exact getD_mem_range fun x hx => h.ws (k, ws) (lookW_mem hh) x hx
theorem doG_range {A : PA} (h : A.Ok) {x : AV} (hv : Valid A x) : 0 ≤ doG A x ∧ doG A x < 18446744073709551616 := by
  unfold doG
  split
  · exact h.rd _ _
  · split
    · rename_i h5
      have := (hv.2.2.1 h5).1
      have := h.l0; have := h.l1
      split <;> omega
    · exact ⟨by decide, by decide⟩

/-- An arena, and routines at the blocks bs in the states ss, each with blocks of its own, all within U. -/
def Sys (R : Rout) (w : World) (a : Nat) (A : PA) (bs : List Nat) (ss : List R.σ) (U : Nat → Prop) : Prop :=
  ∃ (FA : Nat → Prop) (G : Nat → Nat → Prop), bs.length = ss.length ∧ ArRep w a A FA ∧ (∀ (i b : Nat) (s : R.σ), bs[i]? = some b → ss[i]? = some s → R.Rep w b (G i) s) ∧ (∀ i k, G i k → U k ∧ ¬ FA k) ∧
    (∀ i j k, i ≠ j → G i k → ¬ G j k) ∧ (∀ k, FA k → U k) ∧ (∀ k, U k → k < w.heap.size) ∧ ¬ U 0
section
variable {R : Rout} {w w' : World} {a : Nat} {A : PA} {bs : List Nat} {ss : List R.σ} {U : Nat → Prop}
theorem Sys.lt (h : Sys R w a A bs ss U) : ∀ k, U k → k < w.heap.size := by
  obtain ⟨_, _, _, _, _, _, _, _, h, _⟩ := h; exact h
theorem Sys.nz (h : Sys R w a A bs ss U) : ¬ U 0 := by
  obtain ⟨_, _, _, _, _, _, _, _, _, h⟩ := h; exact h
theorem Sys.pos (h : Sys R w a A bs ss U) : 0 < w.heap.size := by
  obtain ⟨FA, _, _, hA, _⟩ := h; have := hA.lt _ hA.b; omega
theorem Sys.ok (h : Sys R w a A bs ss U) : A.Ok := by
  obtain ⟨_, _, _, h, _⟩ := h; exact h.ok
theorem Sys.len (h : Sys R w a A bs ss U) : bs.length = ss.length := by
  obtain ⟨_, _, h, _⟩ := h; exact h
theorem Sys.keep {S : Nat → Prop} (h : Sys R w a A bs ss U) (e : Ext S w w') (hS : ∀ k, U k ∨ k = 0 → ¬ S k) : Sys R w' a A bs ss U := by
  obtain ⟨FA, G, h1, hA, hr, hG, hp, hFA, hlt, hz⟩ := h
  exact ⟨FA, G, h1, hA.ext e (fun k hk => hS k (.inl (hFA k hk))), fun i b s hb hs => R.keep (hr i b s hb hs) e (fun k hk => hS k (hk.imp (fun hk => (hG i k hk).1) id)), hG, hp, hFA, fun k hk => Nat.lt_of_lt_of_le (hlt k hk) e.size, hz⟩
theorem Sys.mono {V : Nat → Prop} (h : Sys R w a A bs ss U) (hV : ∀ k, U k → V k) (hlt : ∀ k, V k → k < w.heap.size) (hz : ¬ V 0) : Sys R w a A bs ss V := by
  obtain ⟨FA, G, h1, hA, hr, hG, hp, hFA, _, _⟩ := h
  exact ⟨FA, G, h1, hA, hr, fun i k hk => ⟨hV k (hG i k hk).1, (hG i k hk).2⟩, hp, fun k hk => hV k (hFA k hk), hlt, hz⟩
/-- No routine yet. -/
theorem Sys.start (R : Rout) {F : Nat → Prop} (h : ArRep w a A F) (hz : ¬ F 0) : Sys R w a A [] [] F :=
  ⟨F, fun _ _ => False, rfl, h, (fun _ _ _ hb _ => by simp at hb), (fun _ _ h => h.elim), (fun _ _ _ _ h => h.elim), (fun _ h => h), h.lt, hz⟩
/-- One more, made new. -/
theorem Sys.add {F : Nat → Prop} {b : Nat} {s : R.σ} (h : Sys R w a A bs ss U) (e : Ext (fun _ => False) w w') (hr : R.Rep w' b F s) (hF : ∀ k, F k → w.heap.size ≤ k) : Sys R w' a A (bs ++ [b]) (ss ++ [s]) (grow U w w') := by
  have hlt := h.lt; have hpos := h.pos
  obtain ⟨FA, G, h1, hA, hrs, hG, hp, hFA, _, hz⟩ := h.keep e (fun _ _ h => h)
  refine ⟨FA, fun i => if i = ss.length then F else if i < ss.length then G i else fun _ => False, by simp [h1], hA, ?_, ?_, ?_, fun k hk => .inl (hFA k hk), grow.lt hlt e.size, grow.no hz hpos⟩
  · intro i b' s' hb hs
    dsimp only
    by_cases hi : i = ss.length
    · subst hi
      rw [if_pos rfl]
      rw [List.getElem?_append_right (by omega), ← h1] at hb
      rw [List.getElem?_append_right (by omega)] at hs
      simp at hb hs; subst hb; subst hs; exact hr
    · have : i < ss.length := by
        have := (List.getElem?_eq_some_iff.1 hs).1; simp at this; omega
      rw [if_neg hi, if_pos this]
      rw [List.getElem?_append_left (by omega)] at hb hs
      exact hrs i b' s' hb hs
  · intro i k hk
    try dsimp only at hk
    by_cases hi : i = ss.length
    · rw [if_pos hi] at hk
      exact ⟨.inr ⟨hF k hk, R.lt hr k hk⟩, fun hk' => by have := hF k hk; have := hlt k (hFA k hk'); omega⟩
    · rw [if_neg hi] at hk
      by_cases hi' : i < ss.length
      · rw [if_pos hi'] at hk; exact ⟨.inl (hG i k hk).1, (hG i k hk).2⟩
      · rw [if_neg hi'] at hk; exact hk.elim
  · intro i j k hij hi hj
    try dsimp only at hi hj
    by_cases h2 : i = ss.length
    · rw [if_pos h2] at hi
      rw [if_neg (by omega)] at hj
      split at hj
      · have := hF k hi; have := hlt k (hG j k hj).1; omega
      · exact hj
    · rw [if_neg h2] at hi
      split at hi
      · by_cases h3 : j = ss.length
        · rw [if_pos h3] at hj
          have := hF k hj; have := hlt k (hG i k hi).1; omega
        · rw [if_neg h3] at hj
          split at hj
          · exact hp i j k hij hi hj
          · exact hj
      · exact hi
/-- A call on the arena alone. -/
theorem Sys.arena (h : Sys R w a A bs ss U) :
    ∃ FA, ArRep w a A FA ∧ (∀ k, FA k → U k) ∧ ∀ w' A', ArRep w' a A' (grow FA w w') → Ext FA w w' → Sys R w' a A' bs ss (grow U w w') ∧ Ext U w w' := by
  have hpos := h.pos
  obtain ⟨FA, G, h1, hA, hrs, hG, hp, hFA, hlt, hz⟩ := h
  refine ⟨FA, hA, hFA, fun w' A' hA' e => ⟨⟨grow FA w w', G, h1, hA', fun i b s hb hs => R.keep (hrs i b s hb hs) e (fun k hk => hk.elim (fun hk => (hG i k hk).2) (fun e hk => hz (hFA 0 (e ▸ hk)))), ?_, hp, grow.mono hFA, grow.lt hlt e.size, grow.no hz hpos⟩, e.mono fun k _ hk => hFA k hk⟩⟩
  refine fun i k hk => ⟨.inl (hG i k hk).1, ?_⟩
  rintro (hk' | hk')
  · exact (hG i k hk).2 hk'
  · have := hlt k (hG i k hk).1; omega
theorem Sys.rep (h : Sys R w a A bs ss U) {i : Nat} {b : Nat} {s : R.σ} (hb : bs[i]? = some b) (hs : ss[i]? = some s) : ∃ F, R.Rep w b F s ∧ ∀ k, F k → U k := by
  obtain ⟨FA, G, h1, hA, hrs, hG, hp, hFA, hlt, _⟩ := h
  exact ⟨G i, hrs i b s hb hs, fun k hk => (hG i k hk).1⟩
theorem Sys.next (h : Sys R w a A bs ss U) {i : Nat} {b : Nat} {s : R.σ} (hb : bs[i]? = some b) (hs : ss[i]? = some s) {x : AV} (hx : R.act s = some x) (hv : Valid A x) (hok : R.ok s (doG A x)) :
    Calls Tryd.prog 66 #[ptr a, .iface R.ty (ptr b)] w fun e w' => e = .returned (.tuple #[.agg x.vals.toArray, u64 (doG A x), .bool true]) ∧ Sys R w' a (doA A x) bs (ss.set i (R.take s (doG A x))) (grow U w w') ∧ Ext U w w' := by
  have hpos := h.pos
  obtain ⟨FA, G, h1, hA, hrs, hG, hp, hFA, hlt, hz⟩ := h
  have hrep := hrs i b s hb hs
  obtain ⟨hg0, hg1⟩ := doG_range hA.ok hv
  refine (next_c R w a b A FA (G i) s hA hrep x hx hv (fun k hk => (hG i k hk).2) (fun hk => hz (hFA 0 hk)) hg0 hg1 hok).mono ?_
  rintro e w' ⟨rfl, ⟨FA', F', hA', hR', hFA', hF', hd'⟩, hE⟩
  refine ⟨rfl, ⟨FA', fun j => if j = i then F' else G j, by simp [h1], hA', ?_, ?_, ?_, ?_, ?_⟩, hE.mono fun k _ hk => hk.elim (hFA k) (fun h => (hG i k h).1)⟩
  · intro j b' s' hb' hs'
    dsimp only
    by_cases hj : j = i
    · subst hj
      rw [if_pos rfl]
      rw [hb] at hb'; cases hb'
      rw [List.getElem?_set_self (List.getElem?_eq_some_iff.1 hs).1] at hs'; cases hs'
      exact hR'
    · rw [if_neg hj]
      rw [List.getElem?_set_ne (Ne.symm hj)] at hs'
      refine R.keep (hrs j b' s' hb' hs') hE ?_
      rintro k (hk | rfl) (hk' | hk')
      · exact (hG j k hk).2 hk'
      · exact hp j i k hj hk hk'
      · exact hz (hFA 0 hk')
      · exact hz (hG i 0 hk').1
  · intro j k hk
    try dsimp only at hk
    by_cases hj : j = i
    · rw [if_pos hj] at hk
      refine ⟨?_, hd' k hk⟩
      rcases hF' k hk with hk' | hk'
      · exact .inl (hG i k hk').1
      · exact .inr ⟨hk', R.lt hR' k hk⟩
    · rw [if_neg hj] at hk
      refine ⟨.inl (hG j k hk).1, fun hk' => ?_⟩
      rcases hFA' k hk' with h2 | h2
      · exact (hG j k hk).2 h2
      · have := hlt k (hG j k hk).1; omega
  · intro j l k hjl hj hl
    try dsimp only at hj hl
    by_cases h2 : j = i
    · rw [if_pos h2] at hj
      rw [if_neg (by omega)] at hl
      rcases hF' k hj with h3 | h3
      · exact hp i l k (by omega) h3 hl
      · have := hlt k (hG l k hl).1; omega
    · rw [if_neg h2] at hj
      by_cases h3 : l = i
      · rw [if_pos h3] at hl
        rcases hF' k hl with h4 | h4
        · exact hp j i k h2 hj h4
        · have := hlt k (hG j k hj).1; omega
      · rw [if_neg h3] at hl
        exact hp j l k hjl hj hl
  · intro k hk
    rcases hFA' k hk with hk' | hk'
    · exact .inl (hFA k hk')
    · exact .inr ⟨hk', hA'.lt k hk⟩
  · exact ⟨grow.lt hlt hE.size, grow.no hz hpos⟩
theorem Sys.next0 (h : Sys R w a A bs ss U) {i : Nat} {b : Nat} {s : R.σ} (hb : bs[i]? = some b) (hs : ss[i]? = some s) (hx : R.act s = none) :
    Calls Tryd.prog 66 #[ptr a, .iface R.ty (ptr b)] w (RetN (.tuple #[.agg noAct.vals.toArray, u64 0, .bool false]) w) := by
  obtain ⟨F, hr, _⟩ := h.rep hb hs
  exact next_none R w a b F s hr hx
end
/-- A routine's acts, at most so many, done alone: the arena, the state, how many. -/
def Rout.alone (R : Rout) : Nat → PA → R.σ → PA × R.σ × Nat
  | 0, A, s => (A, s, 0)
  | m + 1, A, s => match R.act s with
    | none => (A, s, 0)
    | some x => ((R.alone m (doA A x) (R.take s (doG A x))).1, (R.alone m (doA A x) (R.take s (doG A x))).2.1, (R.alone m (doA A x) (R.take s (doG A x))).2.2 + 1)
/-- What holds on behind each act, and makes it valid. -/
def Rout.Closed (R : Rout) (I : PA → R.σ → Prop) : Prop := ∀ A s x, I A s → A.Ok → R.act s = some x → Valid A x ∧ R.ok s (doG A x) ∧ I (doA A x) (R.take s (doG A x))
end Go.Proofs.YtlbphffnbhoghaaDoor
