/- Several who link next tables, act by act: just one is linked, and no other one is left. No program in sight. -/
import Derived.Test.YtlbphffnbhoghaaDoorPure
import Derived.Test.YtlbphffnbhoghaaDoorAwakeE
namespace Go.Proofs.YtlbphffnbhoghaaDoor
open Go.RowKit

theorem doA_alloc (A : PA) (n : Int) : doA A (aAlloc n) = if roomy A n then A.alloc n else A := rfl
theorem doG_alloc (A : PA) (n : Int) : doG A (aAlloc n) = if roomy A n then A.last + 1 else 0 := rfl
theorem doA_store (A : PA) (b c v : Int) : doA A (aStore b c v) = A.put b c v := by simp [doA, aStore]
theorem doG_store (A : PA) (b c v : Int) : doG A (aStore b c v) = 0 := by simp [doG, aStore]
theorem doA_cas (A : PA) (b c o v : Int) : doA A (aCas b c o v) = casA A b c o v (A.rd b c) := by simp [doA, aCas]
theorem doG_cas (A : PA) (b c o v : Int) : doG A (aCas b c o v) = A.rd b c := by simp [doG, aCas]
theorem doA_free (A : PA) (b : Int) : doA A (aFree b) = A.free b := by simp [doA, aFree]
theorem doG_free (A : PA) (b : Int) : doG A (aFree b) = 0 := by simp [doG, aFree]
theorem doA_load (A : PA) (b c : Int) : doA A (aLoad b c) = A := by simp [doA, aLoad]
theorem doG_load (A : PA) (b c : Int) : doG A (aLoad b c) = A.rd b c := by simp [doG, aLoad]
theorem doA_add (A : PA) (b c v : Int) : doA A (aAdd b c v) = A.put b c (addW (A.rd b c) v) := by simp [doA, aAdd]
theorem doG_add (A : PA) (b c v : Int) : doG A (aAdd b c v) = A.rd b c := by simp [doG, aAdd]
theorem set_get {α : Type} {l : List α} {i : Nat} {s s' : α} (h : l[i]? = some s) {j : Nat} {t : α} (ht : (l.set i s')[j]? = some t) : (j = i ∧ t = s') ∨ (j ≠ i ∧ l[j]? = some t) := by
  by_cases hj : j = i
  · subst hj
    rw [List.getElem?_set_self (List.getElem?_eq_some_iff.1 h).1] at ht
    exact .inl ⟨rfl, (Option.some.inj ht).symm⟩
  · rw [List.getElem?_set_ne (Ne.symm hj)] at ht
    exact .inr ⟨hj, ht⟩
theorem set_new {α : Type} {l : List α} {i : Nat} {s s' : α} (h : l[i]? = some s) : (l.set i s')[i]? = some s' := List.getElem?_set_self (List.getElem?_eq_some_iff.1 h).1
theorem set_old {α : Type} {l : List α} {i j : Nat} {s' : α} (h : j ≠ i) : (l.set i s')[j]? = l[j]? := List.getElem?_set_ne (Ne.symm h)

def ExS.owns (s : ExS) : Prop := s.state = 2 ∨ s.state = 3 ∨ s.state = 4 ∨ (s.state = 0 ∧ s.lk = 2)
def ExS.linked (s : ExS) : Prop := s.state = 0 ∧ s.lk = 2
def ExS.words (s : ExS) : List Int := if s.state = 2 then List.replicate (tsize s.log).toNat 0 else (List.replicate (tsize s.log).toNat 0).set 0 s.log
def ExL (lm : Int × Int) (s : ExS) : Prop := s.tb = 2 ∧ s.log = lm.1 ∧ s.mark = lm.2 ∧
  ((s.state = 1 ∧ s.lk = 0) ∨ (s.state = 2 ∧ s.lk = 0) ∨ (s.state = 3 ∧ s.lk = 0) ∨ (s.state = 4 ∧ s.lk = 3) ∨ (s.state = 0 ∧ (s.lk = 1 ∨ (s.lk = 2 ∧ s.lb = s.block ∧ s.lw = s.block * 8 + s.mark) ∨ s.lk = 3)))
structure ExJ (n : Nat) (c : Int) (L : Nat → Int × Int) (A : PA) (ss : List ExS) : Prop where
  len : ss.length = n
  cells : A.cells = c
  faults : A.faults = 0
  desk : ∃ d, A.get 1 = some d ∧ d.length = 4
  tab : ∃ t, A.get 2 = some t ∧ t.length = 16
  loc : ∀ i s, ss[i]? = some s → ExL (L i) s
  own : ∀ (i : Nat) (s : ExS), ss[i]? = some s → s.owns → A.get s.block = some s.words ∧ 3 ≤ s.block
  only : ∀ k, (A.get k).isSome → k = 1 ∨ k = 2 ∨ ∃ (i : Nat) (s : ExS), ss[i]? = some s ∧ s.owns ∧ s.block = k
  apart : ∀ (i j : Nat) (s t : ExS), ss[i]? = some s → ss[j]? = some t → s.owns → t.owns → s.block = t.block → i = j
  last : 2 ≤ A.last ∧ A.last + ss.countP (fun s => decide (s.state = 1)) ≤ 2 + n
  nx0 : A.rd 2 1 = 0 → ∀ (i : Nat) (s : ExS), ss[i]? = some s → s.state ≠ 4 ∧ s.lk ≠ 2 ∧ s.lk ≠ 3
  nx1 : A.rd 2 1 ≠ 0 → ∃ (i : Nat) (s : ExS), ss[i]? = some s ∧ s.linked ∧ s.lw = A.rd 2 1
  one : ∀ (i j : Nat) (s t : ExS), ss[i]? = some s → ss[j]? = some t → s.linked → t.linked → i = j
theorem count_set {l : List ExS} {i : Nat} {s s' : ExS} (h : l[i]? = some s) (p : ExS → Bool) : (l.set i s').countP p + (if p s then 1 else 0) = l.countP p + (if p s' then 1 else 0) := by
  have hi := (List.getElem?_eq_some_iff.1 h).1
  have he := (List.getElem?_eq_some_iff.1 h).2
  rw [List.countP_set hi, he]
  have : (if p s = true then 1 else 0) ≤ l.countP p := by
    split
    · exact List.countP_pos_iff.2 ⟨s, List.mem_of_getElem? h, by assumption⟩
    · exact Nat.zero_le _
  omega
theorem Valid.alloc {A : PA} {n : Int} (h1 : 1 ≤ n) (h2 : n < 1000000) (hl : A.last < 999999999999) : Valid A (aAlloc n) := by
  refine ⟨⟨⟨by simp [aAlloc], by simp [aAlloc], by simp [aAlloc], by simp [aAlloc], by simp [aAlloc], by simp [aAlloc], by simp [aAlloc]; omega, by simp [aAlloc]; omega⟩, ?_⟩, ?_, ?_, ?_⟩
  · simp [aAlloc]; omega
  · intro h; simp [aAlloc] at h
  · intro _; exact ⟨hl, h2⟩
  · intro h; simp [aAlloc] at h
theorem Valid.store {A : PA} {b c v : Int} (hb : 0 ≤ b ∧ b < 18446744073709551616) (hv : 0 ≤ v ∧ v < 18446744073709551616) (hc : c < 9223372036854775808) (hh : A.has b c) : Valid A (aStore b c v) := by
  obtain ⟨ws, hw, h0, h1⟩ := hh
  refine ⟨AV.store_ok hb.1 hb.2 h0 hc hv.1 hv.2, fun _ => ⟨ws, hw, h0, h1⟩, ?_, ?_⟩
  · intro h; simp [aStore] at h
  · intro h; simp [aStore] at h
theorem Valid.cas {A : PA} {b c o v : Int} (hb : 0 ≤ b ∧ b < 18446744073709551616) (ho : 0 ≤ o ∧ o < 18446744073709551616) (hv : 0 ≤ v ∧ v < 18446744073709551616) (hc : c < 9223372036854775808) (hh : A.has b c) : Valid A (aCas b c o v) := by
  obtain ⟨ws, hw, h0, h1⟩ := hh
  refine ⟨⟨⟨hb.1, hb.2, ho.1, ho.2, hv.1, hv.2, h0, hc⟩, ?_⟩, fun _ => ⟨ws, hw, h0, h1⟩, ?_, ?_⟩
  · simp [aCas]
  · intro h; simp [aCas] at h
  · intro h; simp [aCas] at h
theorem Valid.free {A : PA} {b : Int} (hb : 0 ≤ b ∧ b < 18446744073709551616) (hh : (A.get b).isSome) : Valid A (aFree b) := by
  refine ⟨⟨⟨hb.1, hb.2, by simp [aFree], by simp [aFree], by simp [aFree], by simp [aFree], by simp [aFree], by simp [aFree]⟩, ?_⟩, ?_, ?_, fun _ => hh⟩
  · simp [aFree]
  · intro h; simp [aFree] at h
  · intro h; simp [aFree] at h
theorem tsize_hi {l : Int} (l0 : 0 ≤ l) (l1 : l ≤ 3) : tsize l ≤ 79 := by
  have : l = 0 ∨ l = 1 ∨ l = 2 ∨ l = 3 := by omega
  rcases this with rfl | rfl | rfl | rfl <;> decide
theorem ExJ.upd {n : Nat} {c : Int} {L : Nat → Int × Int} {A A' : PA} {ss : List ExS} {i : Nat} {s s' : ExS} (h : ExJ n c L A ss) (hs : ss[i]? = some s) (hloc : ExL (L i) s') (hc : A'.cells = A.cells) (hf : A'.faults = A.faults)
    (hdesk : A'.get 1 = A.get 1) (htab : ∃ t, A'.get 2 = some t ∧ t.length = 16) (hoth : ∀ (j : Nat) (t : ExS), j ≠ i → ss[j]? = some t → t.owns → A'.get t.block = A.get t.block)
    (hown : s'.owns → A'.get s'.block = some s'.words ∧ 3 ≤ s'.block) (honly : ∀ k, (A'.get k).isSome → (k = s'.block ∧ s'.owns) ∨ ((A.get k).isSome ∧ (k = s.block → ¬ s.owns)))
    (hap : ∀ (j : Nat) (t : ExS), j ≠ i → ss[j]? = some t → s'.owns → t.owns → s'.block ≠ t.block)
    (hl : A.last ≤ A'.last ∧ A'.last + (if s'.state = 1 then 1 else 0) ≤ A.last + (if s.state = 1 then 1 else 0))
    (h0 : A'.rd 2 1 = 0 → A.rd 2 1 = 0 ∧ s'.state ≠ 4 ∧ s'.lk ≠ 2 ∧ s'.lk ≠ 3) (h1 : A'.rd 2 1 ≠ 0 → (s'.linked ∧ s'.lw = A'.rd 2 1) ∨ (A'.rd 2 1 = A.rd 2 1 ∧ ¬ s.linked)) (h2 : s'.linked → A.rd 2 1 = 0) :
    ExJ n c L A' (ss.set i s') := by
  have hcnt := count_set hs (s' := s') (fun s => decide (s.state = 1))
  have hlk : ∀ (j : Nat) (t : ExS), j ≠ i → ss[j]? = some t → s'.linked → ¬ t.linked := fun j t _ ht hl hl' => (h.nx0 (h2 hl) j t ht).2.1 hl'.2
  refine ⟨by rw [List.length_set]; exact h.len, hc.trans h.cells, hf.trans h.faults, by rw [hdesk]; exact h.desk, htab, ?_, ?_, ?_, ?_, ?_, ?_, ?_, ?_⟩
  · intro j t ht
    rcases set_get hs ht with ⟨rfl, rfl⟩ | ⟨_, ht⟩
    · exact hloc
    · exact h.loc j t ht
  · intro j t ht ho
    rcases set_get hs ht with ⟨rfl, rfl⟩ | ⟨hj, ht⟩
    · exact hown ho
    · have := h.own j t ht ho
      exact ⟨(hoth j t hj ht ho).trans this.1, this.2⟩
  · intro k hk
    rcases honly k hk with ⟨rfl, ho⟩ | ⟨hk, hno⟩
    · exact .inr (.inr ⟨i, s', set_new hs, ho, rfl⟩)
    · rcases h.only k hk with h3 | h3 | ⟨j, t, ht, ho, he⟩
      · exact .inl h3
      · exact .inr (.inl h3)
      · have hj : j ≠ i := by
          rintro rfl
          rw [hs] at ht; cases ht
          exact hno he.symm ho
        exact .inr (.inr ⟨j, t, by rw [set_old hj]; exact ht, ho, he⟩)
  · intro j k t u ht hu ho hp he
    rcases set_get hs ht with ⟨rfl, rfl⟩ | ⟨hj, ht2⟩ <;> rcases set_get hs hu with ⟨rfl, rfl⟩ | ⟨hk, hu2⟩
    · rfl
    · exact absurd he (hap k u hk hu2 ho hp)
    · exact absurd he.symm (hap j t hj ht2 hp ho)
    · exact h.apart j k t u ht2 hu2 ho hp he
  · have := h.last
    refine ⟨by omega, ?_⟩
    simp only [decide_eq_true_eq] at hcnt
    have h3 := this.2
    split at hcnt <;> split at hcnt <;> simp_all <;> omega
  · intro hz j t ht
    obtain ⟨hz', hs'⟩ := h0 hz
    rcases set_get hs ht with ⟨rfl, rfl⟩ | ⟨_, ht⟩
    · exact hs'
    · exact h.nx0 hz' j t ht
  · intro hz
    rcases h1 hz with ⟨hl', hw⟩ | ⟨he, hnl⟩
    · exact ⟨i, s', set_new hs, hl', hw⟩
    · obtain ⟨j, t, ht, hl', hw⟩ := h.nx1 (he ▸ hz)
      have hj : j ≠ i := by
        rintro rfl
        rw [hs] at ht; cases ht
        exact hnl hl'
      exact ⟨j, t, by rw [set_old hj]; exact ht, hl', hw.trans he.symm⟩
  · intro j k t u ht hu ho hp
    rcases set_get hs ht with ⟨rfl, rfl⟩ | ⟨hj, ht2⟩ <;> rcases set_get hs hu with ⟨rfl, rfl⟩ | ⟨hk, hu2⟩
    · rfl
    · exact absurd hp (hlk k u hk hu2 ho)
    · exact absurd ho (hlk j t hj ht2 hp)
    · exact h.one j k t u ht2 hu2 ho hp
theorem ExJ.closed {n : Nat} {c : Int} {L : Nat → Int × Int} (hn : n ≤ 8) (hL : ∀ i, 0 ≤ (L i).1 ∧ (L i).1 ≤ 3 ∧ ((L i).2 = 1 ∨ (L i).2 = 2)) : rExt.ClosedL (ExJ n c L) := by
  intro A ss i s x h hA hs hx
  change List ExS at ss
  change ExS at s
  have hx : s.act = some x := hx
  show Valid A x ∧ (s.state = 1 → doG A x < 2305843009213693952) ∧ ExJ n c L (doA A x) (ss.set i (s.take (doG A x)))
  obtain ⟨htb, hlog, hmark, hst⟩ := h.loc i s hs
  have hLi := hL i
  have hlast := h.last
  have hl8 : A.last ≤ 10 := by have := hlast.2; omega
  have ht1 := tsize_lo (l := s.log) (by omega) (by omega)
  have ht2 := tsize_hi (l := s.log) (by omega) (by omega)
  obtain ⟨tb, htb1, htb2⟩ := h.tab
  have hown := h.own i s hs
  have hbk : s.owns → s.block ≤ A.last := fun ho => (hA.get_lt (by rw [(hown ho).1]; rfl)).2
  have hcount : s.state = 1 → 1 ≤ ss.countP (fun s => decide (s.state = 1)) := fun e => List.countP_pos_iff.2 ⟨s, List.mem_of_getElem? hs, by simpa using e⟩
  rcases hst with ⟨e, hlk⟩ | ⟨e, hlk⟩ | ⟨e, hlk⟩ | ⟨e, hlk⟩ | ⟨e, hlk⟩
  · -- it allocates
    have hx' : x = aAlloc (tsize s.log) := by simp [ExS.act, e] at hx; exact hx.symm
    subst hx'
    have hno : ¬ s.owns := by simp [ExS.owns, e]
    rw [doA_alloc, doG_alloc]
    refine ⟨Valid.alloc (by omega) (by omega) (by omega), fun _ => by split <;> omega, ?_⟩
    by_cases hr : roomy A (tsize s.log) = true
    · rw [if_pos hr, if_pos hr]
      have htk : s.take (A.last + 1) = { s with block := A.last + 1, state := 2 } := by
        have : ¬ A.last + 1 = 0 := by omega
        simp [ExS.take, e, this]
      rw [htk]
      have hga : ∀ k, k ≤ A.last → (A.alloc (tsize s.log)).get k = A.get k := fun k hk => by rw [hA.get_alloc, if_neg (by omega)]
      have hrd : (A.alloc (tsize s.log)).rd 2 1 = A.rd 2 1 := by unfold PA.rd; rw [hga 2 (by omega)]
      refine h.upd hs ⟨htb, hlog, hmark, .inr (.inl ⟨rfl, hlk⟩)⟩ rfl rfl (hga 1 (by omega)) ⟨tb, by rw [hga 2 (by omega)]; exact htb1, htb2⟩ ?_ ?_ ?_ ?_ ?_ ?_ ?_ ?_
      · intro j t hj ht ho
        exact hga _ (hA.get_lt (by rw [(h.own j t ht ho).1]; rfl)).2
      · intro _
        refine ⟨?_, by show 3 ≤ A.last + 1; omega⟩
        show (A.alloc (tsize s.log)).get (A.last + 1) = _
        rw [hA.get_alloc, if_pos rfl]
        simp [ExS.words]
      · intro k hk
        rw [hA.get_alloc] at hk
        by_cases hk' : k = A.last + 1
        · exact .inl ⟨hk', .inl rfl⟩
        · rw [if_neg hk'] at hk; exact .inr ⟨hk, fun _ => hno⟩
      · intro j t hj ht _ ho he
        have := (hA.get_lt (k := t.block) (by rw [(h.own j t ht ho).1]; rfl)).2
        have he' : A.last + 1 = t.block := he
        omega
      · simp only [e, if_pos]
        show A.last ≤ A.last + 1 ∧ A.last + 1 + (if (2 : Int) = 1 then (1 : Int) else 0) ≤ A.last + (if (1 : Int) = 1 then (1 : Int) else 0)
        exact ⟨by omega, by simp⟩
      · intro hz
        exact ⟨hrd ▸ hz, by simp, by show s.lk ≠ 2; omega, by show s.lk ≠ 3; omega⟩
      · intro hz
        exact .inr ⟨hrd, fun hh => by have := hh.1; omega⟩
      · intro hh; exact absurd hh.1 (by simp)
    · rw [if_neg hr, if_neg hr]
      have htk : s.take 0 = { s with block := 0, state := 0, lk := 1, lb := 0, lw := 0 } := by simp [ExS.take, e]
      rw [htk]
      refine h.upd hs ⟨htb, hlog, hmark, .inr (.inr (.inr (.inr ⟨rfl, .inl rfl⟩)))⟩ rfl rfl rfl ⟨tb, htb1, htb2⟩ (fun _ _ _ _ _ => rfl) ?_ ?_ ?_ ?_ ?_ ?_ ?_
      · intro ho; simp [ExS.owns] at ho
      · intro k hk; exact .inr ⟨hk, fun _ => hno⟩
      · intro j t hj ht ho; simp [ExS.owns] at ho
      · refine ⟨Int.le_refl _, ?_⟩
        rw [if_pos e, if_neg (by simp)]; omega
      · intro hz; exact ⟨hz, by simp, by simp, by simp⟩
      · intro hz; exact .inr ⟨rfl, fun hh => by have := hh.1; omega⟩
      · intro hh; exact absurd hh.2 (by simp)
  · -- it stores the table's log
    have hx' : x = aStore s.block 0 s.log := by simp [ExS.act, e] at hx; exact hx.symm
    subst hx'
    have ho : s.owns := .inl e
    obtain ⟨hg, h3⟩ := hown ho
    have hw : s.words = List.replicate (tsize s.log).toNat 0 := by simp [ExS.words, e]
    have hh : A.has s.block 0 := ⟨s.words, hg, by omega, by rw [hw]; simp; omega⟩
    have hb := hbk ho
    rw [doA_store, doG_store]
    refine ⟨Valid.store ⟨by omega, by omega⟩ ⟨by omega, by omega⟩ (by omega) hh, fun e' => by omega, ?_⟩
    have htk : s.take 0 = { s with state := 3 } := by simp [ExS.take, e]
    rw [htk]
    have hga : ∀ k, k ≠ s.block → (A.put s.block 0 s.log).get k = A.get k := fun k hk => by rw [PA.get_put, if_neg hk]
    have hrd : (A.put s.block 0 s.log).rd 2 1 = A.rd 2 1 := by unfold PA.rd; rw [hga 2 (by omega)]
    refine h.upd hs ⟨htb, hlog, hmark, .inr (.inr (.inl ⟨rfl, hlk⟩))⟩ rfl rfl (hga 1 (by omega)) ⟨tb, by rw [hga 2 (by omega)]; exact htb1, htb2⟩ ?_ ?_ ?_ ?_ ?_ ?_ ?_ ?_
    · intro j t hj ht hto
      exact hga _ fun he => hj (h.apart j i t s ht hs hto ho he)
    · intro _
      refine ⟨?_, h3⟩
      show (A.put s.block 0 s.log).get s.block = _
      rw [PA.get_put, if_pos rfl, hg, hw]
      simp [ExS.words]
    · intro k hk
      by_cases hk' : k = s.block
      · exact .inl ⟨hk', .inr (.inl rfl)⟩
      · rw [hga k hk'] at hk; exact .inr ⟨hk, fun he => absurd he hk'⟩
    · intro j t hj ht _ hto he
      exact hj (h.apart j i t s ht hs hto ho he.symm)
    · refine ⟨Int.le_refl _, ?_⟩
      rw [if_neg (by simp), if_neg (by omega)]; exact Int.le_refl _
    · intro hz
      exact ⟨hrd ▸ hz, by simp, by show s.lk ≠ 2; omega, by show s.lk ≠ 3; omega⟩
    · intro hz
      exact .inr ⟨hrd, fun hh => by have := hh.1; omega⟩
    · intro hh; exact absurd hh.1 (by simp)
  · -- it tries to link
    have hx' : x = aCas s.tb 1 0 (s.block * 8 + s.mark) := by simp [ExS.act, e] at hx; exact hx.symm
    subst hx'
    rw [htb]
    have ho : s.owns := .inr (.inl e)
    obtain ⟨hg, h3⟩ := hown ho
    have hb := hbk ho
    have hh : A.has 2 1 := ⟨tb, htb1, by decide, by omega⟩
    rw [doA_cas, doG_cas]
    refine ⟨Valid.cas ⟨by decide, by decide⟩ ⟨by decide, by decide⟩ ⟨by omega, by omega⟩ (by decide) hh, fun e' => by omega, ?_⟩
    by_cases hz : A.rd 2 1 = 0
    · rw [casA_yes hz, hz]
      have htk : s.take 0 = { s with state := 0, lk := 2, lb := s.block, lw := s.block * 8 + s.mark } := by simp [ExS.take, e]
      rw [htk]
      have hga : ∀ k, k ≠ 2 → (A.put 2 1 (s.block * 8 + s.mark)).get k = A.get k := fun k hk => by rw [PA.get_put, if_neg hk]
      have hrd : (A.put 2 1 (s.block * 8 + s.mark)).rd 2 1 = s.block * 8 + s.mark := by rw [PA.rd_put A 2 1 _ 2 1 hh (by decide), if_pos ⟨rfl, rfl⟩]
      refine h.upd hs ⟨htb, hlog, hmark, .inr (.inr (.inr (.inr ⟨rfl, .inr (.inl ⟨rfl, rfl, rfl⟩)⟩)))⟩ rfl rfl (hga 1 (by decide)) ⟨tb.set 1 (s.block * 8 + s.mark), by rw [PA.get_put, if_pos rfl, htb1]; rfl, by simpa using htb2⟩ ?_ ?_ ?_ ?_ ?_ ?_ ?_ ?_
      · intro j t hj ht hto
        exact hga _ (by have := (h.own j t ht hto).2; omega)
      · intro _
        refine ⟨?_, h3⟩
        show (A.put 2 1 (s.block * 8 + s.mark)).get s.block = _
        rw [hga _ (by omega), hg]
        simp [ExS.words, e]
      · intro k hk
        by_cases hk' : k = s.block
        · exact .inl ⟨hk', .inr (.inr (.inr ⟨rfl, rfl⟩))⟩
        · refine .inr ⟨?_, fun he => absurd he hk'⟩
          by_cases hk2 : k = 2
          · rw [hk2, htb1]; rfl
          · rw [hga k hk2] at hk; exact hk
      · intro j t hj ht _ hto he
        exact hj (h.apart j i t s ht hs hto ho he.symm)
      · refine ⟨Int.le_refl _, ?_⟩
        rw [if_neg (by simp), if_neg (by omega)]; exact Int.le_refl _
      · intro hz'; rw [hrd] at hz'; omega
      · intro _; exact .inl ⟨⟨rfl, rfl⟩, hrd.symm⟩
      · intro _; exact hz
    · rw [casA_no hz]
      have htk : s.take (A.rd 2 1) = { s with state := 4, lk := 3, lb := 0, lw := A.rd 2 1 } := by simp [ExS.take, e, hz]
      rw [htk]
      refine h.upd hs ⟨htb, hlog, hmark, .inr (.inr (.inr (.inl ⟨rfl, rfl⟩)))⟩ rfl rfl rfl ⟨tb, htb1, htb2⟩ (fun _ _ _ _ _ => rfl) ?_ ?_ ?_ ?_ ?_ ?_ ?_
      · intro _
        refine ⟨?_, h3⟩
        show A.get s.block = _
        rw [hg]
        simp [ExS.words, e]
      · intro k hk
        by_cases hk' : k = s.block
        · exact .inl ⟨hk', .inr (.inr (.inl rfl))⟩
        · exact .inr ⟨hk, fun he => absurd he hk'⟩
      · intro j t hj ht _ hto he
        exact hj (h.apart j i t s ht hs hto ho he.symm)
      · refine ⟨Int.le_refl _, ?_⟩
        rw [if_neg (by simp), if_neg (by omega)]; exact Int.le_refl _
      · intro hz'; exact absurd hz' hz
      · intro _; exact .inr ⟨rfl, fun hh => by have := hh.1; omega⟩
      · intro hh; exact absurd hh.1 (by simp)
  · -- it frees what it lost
    have hx' : x = aFree s.block := by simp [ExS.act, e] at hx; exact hx.symm
    subst hx'
    have ho : s.owns := .inr (.inr (.inl e))
    obtain ⟨hg, h3⟩ := hown ho
    have hb := hbk ho
    rw [doA_free, doG_free]
    refine ⟨Valid.free ⟨by omega, by omega⟩ (by rw [hg]; rfl), fun e' => by omega, ?_⟩
    have htk : s.take 0 = { s with state := 0 } := by simp [ExS.take, e]
    rw [htk]
    have hga : ∀ k, k ≠ s.block → (A.free s.block).get k = A.get k := fun k hk => by rw [hA.get_free, if_neg hk]
    have hrd : (A.free s.block).rd 2 1 = A.rd 2 1 := by unfold PA.rd; rw [hga 2 (by omega)]
    have hno : ¬ ({ s with state := 0 } : ExS).owns := by simp [ExS.owns]; show s.lk ≠ 2; omega
    refine h.upd hs ⟨htb, hlog, hmark, .inr (.inr (.inr (.inr ⟨rfl, .inr (.inr hlk)⟩)))⟩ rfl rfl (hga 1 (by omega)) ⟨tb, by rw [hga 2 (by omega)]; exact htb1, htb2⟩ ?_ ?_ ?_ ?_ ?_ ?_ ?_ ?_
    · intro j t hj ht hto
      exact hga _ fun he => hj (h.apart j i t s ht hs hto ho he)
    · intro hh; exact absurd hh hno
    · intro k hk
      by_cases hk' : k = s.block
      · rw [hk', hA.get_free, if_pos rfl] at hk; cases hk
      · rw [hga k hk'] at hk; exact .inr ⟨hk, fun he => absurd he hk'⟩
    · intro j t hj ht hh; exact absurd hh hno
    · refine ⟨Int.le_refl _, ?_⟩
      rw [if_neg (by simp), if_neg (by omega)]; exact Int.le_refl _
    · intro hz; rw [hrd] at hz
      exact absurd e (h.nx0 hz i s hs).1
    · intro _; exact .inr ⟨hrd, fun hh => by have := hh.1; omega⟩
    · intro hh
      have : s.lk = 2 := hh.2
      omega
  · simp [ExS.act, e] at hx
end Go.Proofs.YtlbphffnbhoghaaDoor
