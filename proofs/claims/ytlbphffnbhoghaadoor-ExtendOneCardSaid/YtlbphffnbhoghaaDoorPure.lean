/- The pure arena, by what it holds at each number. No program in sight. -/
import Derived.Test.YtlbphffnbhoghaaDoorField
namespace Go.Proofs.YtlbphffnbhoghaaDoor
open Go.RowKit

theorem lookW_setW (k k' : Int) (i : Nat) (v : Int) : ∀ l, lookW k' (setW k i v l) = if k' = k then (lookW k l).map (·.set i v) else lookW k' l
  | [] => by simp [setW, lookW]
  | p :: l => by
    have ih := lookW_setW k k' i v l
    simp only [setW, List.map_cons, lookW] at ih ⊢
    by_cases hp : p.1 = k
    · rw [if_pos hp]
      by_cases hk : k' = k
      · subst hk; simp [hp]
      · rw [if_neg hk] at ih ⊢
        have : ¬ k' = p.1 := fun h => hk (h.trans hp)
        rw [if_neg this, if_neg this, ih]
    · rw [if_neg hp]
      by_cases hk' : k' = p.1
      · rw [if_pos hk', if_pos hk']
        have : ¬ k' = k := fun h => hp (hk'.symm.trans h)
        rw [if_neg this]
      · rw [if_neg hk', if_neg hk', ih]
        by_cases hk : k' = k
        · subst hk; rw [if_pos rfl, if_pos rfl, if_neg hk']
        · rw [if_neg hk, if_neg hk]
theorem PA.get_put (A : PA) (k i v k' : Int) : (A.put k i v).get k' = if k' = k then (A.get k).map (·.set i.toNat v) else A.get k' := lookW_setW k k' i.toNat v A.blk
theorem lookW_key {k : Int} {l : List (Int × List Int)} {ws : List Int} (h : lookW k l = some ws) : ∃ p ∈ l, p.1 = k := ⟨_, lookW_mem h, rfl⟩
theorem lookW_none_of {k : Int} : ∀ {l : List (Int × List Int)}, (∀ p ∈ l, p.1 ≠ k) → lookW k l = none
  | [], _ => rfl
  | p :: l, h => by
    simp only [lookW]
    rw [if_neg (fun e => h p List.mem_cons_self e.symm)]
    exact lookW_none_of fun q hq => h q (List.mem_cons_of_mem _ hq)
theorem lookW_delW (k k' : Int) : ∀ {l : List (Int × List Int)}, (l.map (·.1)).Nodup → lookW k' (delW k l) = if k' = k then none else lookW k' l
  | [], _ => by simp [delW, lookW]
  | p :: l, h => by
    simp only [List.map_cons, List.nodup_cons] at h
    simp only [delW]
    by_cases hp : k = p.1
    · rw [if_pos hp]
      by_cases hk : k' = k
      · rw [if_pos hk]
        exact lookW_none_of fun q hq e => h.1 (by rw [← hp, ← hk, ← e]; exact List.mem_map.2 ⟨q, hq, rfl⟩)
      · rw [if_neg hk, lookW, if_neg (fun e => hk (e.trans hp.symm))]
    · rw [if_neg hp, lookW, lookW]
      by_cases hk' : k' = p.1
      · rw [if_pos hk', if_pos hk', if_neg (fun e => hp (e.symm.trans hk'))]
      · rw [if_neg hk', if_neg hk']; exact lookW_delW k k' h.2
theorem PA.Ok.get_free {A : PA} (h : A.Ok) (k k' : Int) : (A.free k).get k' = if k' = k then none else A.get k' := lookW_delW k k' h.nk
theorem lookW_app (k' : Int) (n : Int) (ws : List Int) : ∀ l, lookW k' (l ++ [(n, ws)]) = match lookW k' l with | some x => some x | none => if k' = n then some ws else none
  | [] => by simp [lookW]
  | p :: l => by
    simp only [List.cons_append, lookW]
    by_cases hk : k' = p.1
    · rw [if_pos hk, if_pos hk]
    · rw [if_neg hk, if_neg hk]; exact lookW_app k' n ws l
theorem PA.Ok.get_lt {A : PA} (h : A.Ok) {k : Int} (hk : (A.get k).isSome) : 1 ≤ k ∧ k ≤ A.last := by
  obtain ⟨ws, hw⟩ := Option.isSome_iff_exists.1 hk
  have := h.ks _ (lookW_mem hw)
  exact ⟨this.1, this.2.1⟩
theorem PA.Ok.get_alloc {A : PA} (h : A.Ok) (n k' : Int) : (A.alloc n).get k' = if k' = A.last + 1 then some (List.replicate n.toNat 0) else A.get k' := by
  have := lookW_app k' (A.last + 1) (List.replicate n.toNat 0) A.blk
  show lookW k' (A.blk ++ [(A.last + 1, List.replicate n.toNat 0)]) = _
  rw [this]
  by_cases hk : k' = A.last + 1
  · have hn : lookW k' A.blk = none := lookW_none_of fun p hp e => by have := (h.ks p hp).2.1; omega
    rw [hn, if_pos hk, if_pos hk]
  · rw [if_neg hk, if_neg hk]
    show _ = lookW k' A.blk
    cases lookW k' A.blk <;> rfl
/-- The blocks' total, counted over their numbers. -/
theorem totalW_keys : ∀ (ks : List Int) (l : List (Int × List Int)), (l.map (·.1)).Nodup → ks.Nodup → (∀ k, (lookW k l).isSome ↔ k ∈ ks) →
    totalW l = (ks.map fun k => (((lookW k l).getD []).length : Int)).sum ∧ l.length = ks.length
  | [], l, _, _, h => by
    cases l with
    | nil => simp [totalW]
    | cons p l => have := (h p.1).1 (by simp [lookW]); simp at this
  | k :: ks, l, hl, hk, h => by
    obtain ⟨ws, hw⟩ := Option.isSome_iff_exists.1 ((h k).2 List.mem_cons_self)
    rw [List.nodup_cons] at hk
    obtain ⟨ih1, ih2⟩ := totalW_keys ks (delW k l) (delW_nodup hl) hk.2 (fun k' => by
      rw [lookW_delW k k' hl]
      by_cases e : k' = k
      · subst e; rw [if_pos rfl]; simp [hk.1]
      · rw [if_neg e, h k', List.mem_cons]; simp [e])
    have ht := totalW_del hw
    refine ⟨?_, ?_⟩
    · rw [List.map_cons, List.sum_cons, hw, Option.getD_some]
      have : (ks.map fun k' => (((lookW k' (delW k l)).getD []).length : Int)) = ks.map fun k' => (((lookW k' l).getD []).length : Int) := List.map_congr_left fun k' hk' => by
        rw [lookW_delW k k' hl, if_neg (fun (e : k' = k) => hk.1 (e ▸ hk'))]
      rw [this] at ih1
      omega
    · have := delW_len hw
      rw [List.length_cons, ← ih2]; omega
where
  delW_len {k : Int} : ∀ {l : List (Int × List Int)} {ws : List Int}, lookW k l = some ws → l.length = (delW k l).length + 1
  | [], _, h => by simp [lookW] at h
  | p :: l, ws, h => by
    simp only [lookW] at h
    simp only [delW]
    by_cases hk : k = p.1
    · rw [if_pos hk]; simp
    · rw [if_neg hk] at h ⊢; simp [delW_len h]
theorem PA.Ok.used_keys {A : PA} (h : A.Ok) (ks : List Int) (hn : ks.Nodup) (hk : ∀ k, (A.get k).isSome ↔ k ∈ ks) :
    A.used = (ks.map fun k => (((A.get k).getD []).length : Int)).sum ∧ A.blk.length = ks.length := by
  have := totalW_keys ks A.blk h.nk hn hk
  exact ⟨h.us.trans this.1, this.2⟩
theorem PA.rd_put (A : PA) (k i v k' i' : Int) (h : A.has k i) (hi' : 0 ≤ i') : (A.put k i v).rd k' i' = if k' = k ∧ i' = i then v else A.rd k' i' := by
  obtain ⟨ws, hw, h0, h1⟩ := h
  unfold PA.rd
  rw [PA.get_put]
  by_cases hk : k' = k
  · subst hk
    rw [if_pos rfl, hw]
    simp only [Option.map_some, Option.getD_some, true_and]
    by_cases hi : i' = i
    · subst hi
      rw [if_pos rfl, List.getD_eq_getElem?_getD, List.getElem?_set_self (by omega)]; rfl
    · rw [if_neg hi, List.getD_eq_getElem?_getD, List.getElem?_set_ne (by omega), ← List.getD_eq_getElem?_getD]
  · rw [if_neg hk, if_neg (fun h => hk h.1)]
/-- Alone, at most so many acts, and behind them none is left. -/
theorem Rout.alone_inv {R : Rout} {I : PA → R.σ → Prop} (hI : ∀ A s x, I A s → R.act s = some x → I (doA A x) (R.take s (doG A x))) : ∀ m A s, I A s → I (R.alone m A s).1 (R.alone m A s).2.1
  | 0, _, _, h => h
  | m + 1, A, s, h => by
    cases hx : R.act s with
    | none => rw [Rout.alone_none hx]; exact h
    | some x => rw [Rout.alone_some hx]; exact Rout.alone_inv hI m _ _ (hI A s x h hx)
theorem Rout.alone_done {R : Rout} {I : PA → R.σ → Prop} (φ : PA → R.σ → Nat) (hI : ∀ A s x, I A s → R.act s = some x → I (doA A x) (R.take s (doG A x)) ∧ φ (doA A x) (R.take s (doG A x)) < φ A s) :
    ∀ m A s, I A s → φ A s ≤ m → R.act (R.alone m A s).2.1 = none ∧ (R.alone m A s).2.2 ≤ φ A s
  | 0, A, s, h, hm => by
    cases hx : R.act s with
    | none => exact ⟨hx, Nat.zero_le _⟩
    | some x => have := (hI A s x h hx).2; omega
  | m + 1, A, s, h, hm => by
    cases hx : R.act s with
    | none => rw [Rout.alone_none hx]; exact ⟨hx, Nat.zero_le _⟩
    | some x =>
      rw [Rout.alone_some hx]
      have h2 := hI A s x h hx
      have ih := Rout.alone_done φ hI m _ _ h2.1 (by omega)
      exact ⟨ih.1, by have := ih.2; simp only; omega⟩
theorem doA_ok {A : PA} (h : A.Ok) {x : AV} (hv : Valid A x) : (doA A x).Ok := by
  obtain ⟨hok, h4, h5, h6⟩ := hv
  obtain ⟨kd, bl, c, o, n⟩ := x
  have hn0 := hok.1.2.2.2.2.1; have hn1 := hok.1.2.2.2.2.2.1
  have hk := hok.2
  simp only at hk h4 h5 h6 hn0 hn1
  rcases hk with ⟨rfl, rfl, rfl⟩ | ⟨rfl, rfl⟩ | rfl | ⟨rfl, rfl⟩ | ⟨rfl, rfl, rfl, rfl, h1⟩ | ⟨rfl, rfl, rfl, rfl⟩
  · exact h
  · exact h.put _ _ _ hn0 hn1
  · show (casA A bl c o n (A.rd bl c)).Ok
    unfold casA; split
    · exact h.put _ _ _ hn0 hn1
    · exact h
  · exact h.put _ _ _ (by rw [addW_eq]; omega) (by rw [addW_eq]; omega)
  · show (if roomy A c then A.alloc c else A).Ok
    split
    · rename_i hr
      have hr' : c ≤ A.cells - A.used := by simpa [roomy] using hr
      obtain ⟨m, rfl⟩ := Int.eq_ofNat_of_zero_le (a := c) (by omega)
      exact h.alloc (by omega) hr' (h5 rfl).1
    · exact h
  · obtain ⟨ws, hw⟩ := Option.isSome_iff_exists.1 (h6 rfl)
    exact h.free hw
/-- What holds on behind any routine's act holds on behind one's. -/
theorem Rout.ClosedL.one {R : Rout} {J : PA → List R.σ → Prop} (hJ : R.ClosedL J) {ss : List R.σ} {i : Nat} {s : R.σ} (hs : ss[i]? = some s) : R.Closed (fun A s' => J A (ss.set i s')) := by
  intro A s' x hj hA hx
  have := hJ A (ss.set i s') i s' x hj hA (List.getElem?_set_self (List.getElem?_eq_some_iff.1 hs).1) hx
  rw [List.set_set] at this
  exact this
/-- One alone, with enough acts: what held holds on, and it is done. -/
theorem Rout.alone_J {R : Rout} {J : PA → List R.σ → Prop} (hJ : R.ClosedL J) {ss : List R.σ} {i : Nat} {s : R.σ} (hs : ss[i]? = some s) (φ : PA → R.σ → Nat)
    (hφ : ∀ A s' x, J A (ss.set i s') → A.Ok → R.act s' = some x → φ (doA A x) (R.take s' (doG A x)) < φ A s') {A : PA} (hj : J A ss) (hA : A.Ok) {m : Nat} (hm : φ A s ≤ m) :
    J (R.alone m A s).1 (ss.set i (R.alone m A s).2.1) ∧ (R.alone m A s).1.Ok ∧ R.act (R.alone m A s).2.1 = none ∧ (R.alone m A s).2.2 ≤ φ A s := by
  have hc := hJ.one hs
  have hstep : ∀ A s' x, (J A (ss.set i s') ∧ A.Ok) → R.act s' = some x → (J (doA A x) (ss.set i (R.take s' (doG A x))) ∧ (doA A x).Ok) ∧ φ (doA A x) (R.take s' (doG A x)) < φ A s' := fun A s' x h hx => by
    have := hc A s' x h.1 h.2 hx
    exact ⟨⟨this.2.2, doA_ok h.2 this.1⟩, hφ A s' x h.1 h.2 hx⟩
  have h0 : J A (ss.set i s) ∧ A.Ok := ⟨by rw [set_same hs]; exact hj, hA⟩
  have h1 := Rout.alone_inv (I := fun A s' => J A (ss.set i s') ∧ A.Ok) (fun A s' x h hx => (hstep A s' x h hx).1) m A s h0
  have h2 := Rout.alone_done (I := fun A s' => J A (ss.set i s') ∧ A.Ok) φ hstep m A s h0 hm
  exact ⟨h1.1, h1.2, h2.1, h2.2⟩
end Go.Proofs.YtlbphffnbhoghaaDoor
