/- ExtendOne's second loop, and its end: the plain part. -/
import Derived.Test.YtlbphffnbhoghaaDoorExtPre
namespace Go.Proofs.YtlbphffnbhoghaaDoor
open Go.RowKit
set_option maxRecDepth 100000
set_option linter.unusedVariables false
set_option linter.unusedSimpArgs false

def ExS.left (s : ExS) : Nat := if s.state = 1 then 4 else if s.state = 2 then 3 else if s.state = 3 then 2 else if s.state = 4 then 1 else 0
theorem ExS.left_le (s : ExS) : s.left ≤ 9 := by unfold ExS.left; (repeat' split) <;> omega
theorem ExS.left_lt {s : ExS} {x : AV} (hx : s.act = some x) (g : Int) : (s.take g).left < s.left := by
  unfold ExS.act at hx
  by_cases h1 : s.state = 1
  · have : (s.take g).left ≤ 3 := by simp only [ExS.take, h1, if_pos]; split <;> simp [ExS.left]
    simp only [ExS.left, h1, if_pos] at this ⊢; omega
  · by_cases h2 : s.state = 2
    · simp [ExS.take, ExS.left, h2]
    · by_cases h3 : s.state = 3
      · have : (s.take g).left ≤ 1 := by simp [ExS.take, h3]; split <;> simp [ExS.left]
        have h4 : s.left = 2 := by simp [ExS.left, h3]
        omega
      · by_cases h4 : s.state = 4
        · simp [ExS.take, ExS.left, h4]
        · simp [h1, h2, h3, h4] at hx
theorem ExJ.act0 {n : Nat} {c : Int} {L : Nat → Int × Int} {A : PA} {ss : List ExS} (h : ExJ n c L A ss) {i : Nat} {s : ExS} (hs : ss[i]? = some s) (hx : s.act = none) : s.state = 0 := by
  obtain ⟨_, _, _, hst⟩ := h.loc i s hs
  rcases hst with ⟨e, _⟩ | ⟨e, _⟩ | ⟨e, _⟩ | ⟨e, _⟩ | ⟨e, _⟩ <;> first | exact e | (simp [ExS.act, e] at hx)
theorem ExJ.used20 {n : Nat} {c : Int} {L : Nat → Int × Int} {A : PA} {ss : List ExS} (h : ExJ n c L A ss) (hA : A.Ok) : 20 ≤ A.used := by
  obtain ⟨d, hd, hd4⟩ := h.desk
  obtain ⟨t, ht, ht16⟩ := h.tab
  have h1 := hA.free hd
  have hg : (A.free 1).get 2 = some t := by rw [hA.get_free, if_neg (by decide)]; exact ht
  have h2 := (h1.free hg).used0
  have e1 : (A.free 1).used = A.used - 4 := by simp [PA.free, hd, hd4]
  have e2 : ((A.free 1).free 2).used = (A.free 1).used - 16 := by
    show (A.free 1).used - (((A.free 1).get 2).getD []).length = _
    rw [hg]; simp [ht16]
  omega
/-- None linked: nothing is left. -/
theorem ExJ.none_linked {n : Nat} {c : Int} {L : Nat → Int × Int} {A : PA} {ss : List ExS} (h : ExJ n c L A ss) (hA : A.Ok) (hd : ∀ (i : Nat) (s : ExS), ss[i]? = some s → s.state = 0) (hn : ∀ (i : Nat) (s : ExS), ss[i]? = some s → s.lk ≠ 2) :
    A.rd 2 1 = 0 ∧ (∀ (i : Nat) (s : ExS), ss[i]? = some s → s.lk ≠ 3) ∧ A.used = 20 := by
  have hz : A.rd 2 1 = 0 := by
    by_cases hz : A.rd 2 1 = 0
    · exact hz
    · obtain ⟨i, s, hs, hl, _⟩ := h.nx1 hz
      exact absurd hl.2 (hn i s hs)
  refine ⟨hz, fun i s hs => (h.nx0 hz i s hs).2.2, ?_⟩
  obtain ⟨d, hdk, hd4⟩ := h.desk
  obtain ⟨t, ht, ht16⟩ := h.tab
  have := (hA.used_keys [1, 2] (by decide) (fun k => by
    constructor
    · intro hk
      rcases h.only k hk with h1 | h1 | ⟨i, s, hs, ho, _⟩
      · simp [h1]
      · simp [h1]
      · exfalso
        have e := hd i s hs; have e2 := hn i s hs
        rcases ho with h3 | h3 | h3 | h3
        · omega
        · omega
        · omega
        · exact e2 h3.2
    · intro hk
      simp only [List.mem_cons, List.not_mem_nil, or_false] at hk
      rcases hk with rfl | rfl
      · rw [hdk]; rfl
      · rw [ht]; rfl)).1
  rw [this]; simp [hdk, ht, hd4, ht16]
/-- One linked: it alone is left. -/
theorem ExJ.one_linked {n : Nat} {c : Int} {L : Nat → Int × Int} (hL : ∀ i, (L i).2 = 1 ∨ (L i).2 = 2) {A : PA} {ss : List ExS} (h : ExJ n c L A ss) (hA : A.Ok) (hd : ∀ (i : Nat) (s : ExS), ss[i]? = some s → s.state = 0) {j : Nat} {u : ExS} (hu : ss[j]? = some u) (hl : u.lk = 2) :
    A.rd 2 1 = u.lw ∧ u.lw / 8 = u.block ∧ A.used = 20 + ((A.get u.block).getD []).length := by
  have hlk : u.linked := ⟨hd j u hu, hl⟩
  have hz : A.rd 2 1 ≠ 0 := fun hz => (h.nx0 hz j u hu).2.1 hl
  obtain ⟨i, s, hs, hl', hw⟩ := h.nx1 hz
  obtain rfl := h.one i j s u hs hu hl' hlk
  rw [hs] at hu; cases hu
  obtain ⟨_, _, hm, hst⟩ := h.loc i u hs
  have hm2 := hL i
  have hw2 : u.lw = u.block * 8 + u.mark := by
    have e := hd i u hs
    rcases hst with ⟨e', _⟩ | ⟨e', _⟩ | ⟨e', _⟩ | ⟨e', _⟩ | ⟨_, h1 | h1 | h1⟩ <;> omega
  refine ⟨hw.symm, by omega, ?_⟩
  obtain ⟨d, hdk, hd4⟩ := h.desk
  obtain ⟨t, ht, ht16⟩ := h.tab
  have how : u.owns := .inr (.inr (.inr hlk))
  obtain ⟨hb, hb3⟩ := h.own i u hs how
  have := (hA.used_keys [1, 2, u.block] (by simp; omega) (fun k => by
    constructor
    · intro hk
      rcases h.only k hk with h1 | h1 | ⟨i', s, hs', ho, he⟩
      · simp [h1]
      · simp [h1]
      · have hsl : s.linked := by
          have e := hd i' s hs'
          rcases ho with h3 | h3 | h3 | h3
          · omega
          · omega
          · omega
          · exact h3
        obtain rfl := h.one i' i s u hs' hs hsl hlk
        rw [hs] at hs'; cases hs'
        simp [he]
    · intro hk
      simp only [List.mem_cons, List.not_mem_nil, or_false] at hk
      rcases hk with rfl | rfl | rfl
      · rw [hdk]; rfl
      · rw [ht]; rfl
      · rw [hb]; rfl)).1
  rw [this]; simp [hdk, ht, hd4, ht16]; omega
theorem E2.step {w : World} {a n : Nat} {c : Int} {L : Nat → Int × Int} {b8 gA gO : Nat} {w5 : World} {bs : List Nat} {k : Nat} {lk ls wd : Int} {A : PA} {ss : List ExS} {V : Nat → Prop} {wr : World} (h : E2 w a n c L b8 gA gO w5 bs k lk ls wd A ss V wr) (hk : k < n)
    {s : ExS} (hs : ss[k]? = some s) {A' : PA} {s' : ExS} {w2 w3 : World} (hS : Sys rExt w2 a A' bs (ss.set k s') (grow V wr w2)) (e2 : Ext V wr w2) (hJ : ExJ n c L A' (ss.set k s')) (h0 : s'.state = 0) (e3 : Ext (fun _ => False) w2 w3)
    (l8 : b8 < w5.heap.size) (lA : gA < w5.heap.size) (lO : gO < w5.heap.size) (hw : w.heap.size ≤ w5.heap.size) {lk' ls' wd' : Int}
    (hn : (s'.lk = 2 ∧ lk' = lk + 1 ∧ ls' = ls ∧ wd' = s'.lw) ∨ (s'.lk = 3 ∧ lk' = lk ∧ ls' = ls + 1 ∧ wd' = wd) ∨ (s'.lk = 1 ∧ lk' = lk ∧ ls' = ls ∧ wd' = wd)) :
    E2 w a n c L b8 gA gO w5 bs (k + 1) lk' ls' wd' A' (ss.set k s') (grow V wr w2) w3 := by
  have z1 := h.e5.size; have z2 := e2.size
  have old : ∀ (i : Nat) (t : ExS), i < k → (ss.set k s')[i]? = some t → ss[i]? = some t := fun i t hi ht => by rwa [set_old (by omega)] at ht
  have put : ∀ (i : Nat) (t : ExS), i < k → ss[i]? = some t → (ss.set k s')[i]? = some t := fun i t hi ht => by rwa [set_old (by omega)]
  refine ⟨hk, hJ, hS.keep0 e3, ?_, ?_, ?_, grow.ge h.v (by omega), grow.no h.nb (by omega), grow.no h.nA (by omega), grow.no h.nO (by omega), ?_, ?_⟩
  · intro i t hi ht
    by_cases hik : i = k
    · subst hik; rw [set_new hs] at ht; cases ht; exact h0
    · exact h.done i t (by omega) (old i t (by omega) ht)
  · rcases hn with ⟨q, rfl, rfl, rfl⟩ | ⟨q, rfl, rfl, rfl⟩ | ⟨q, rfl, rfl, rfl⟩
    · rcases h.lk with ⟨e, _⟩ | ⟨e, i, t, hi, ht, q2, _⟩
      · refine .inr ⟨by omega, k, s', by omega, set_new hs, q, rfl⟩
      · have := hJ.one i k t s' (put i t hi ht) (set_new hs) ⟨h.done i t hi ht, q2⟩ ⟨h0, q⟩
        omega
    all_goals
      rcases h.lk with ⟨e, hno⟩ | ⟨e, i, t, hi, ht, q2, q3⟩
      · refine .inl ⟨e, fun i t hi ht => ?_⟩
        by_cases hik : i = k
        · subst hik; rw [set_new hs] at ht; cases ht; omega
        · exact hno i t (by omega) (old i t (by omega) ht)
      · exact .inr ⟨e, i, t, by omega, put i t hi ht, q2, q3⟩
  · obtain ⟨h1, h2, h3⟩ := h.ls
    rcases hn with ⟨q, rfl, rfl, rfl⟩ | ⟨q, rfl, rfl, rfl⟩ | ⟨q, rfl, rfl, rfl⟩
    · refine ⟨by omega, by omega, h3.imp id fun ⟨i, t, hi, ht, q2⟩ => ⟨i, t, by omega, put i t hi ht, q2⟩⟩
    · exact ⟨by omega, by omega, .inr ⟨k, s', by omega, set_new hs, q⟩⟩
    · refine ⟨by omega, by omega, h3.imp id fun ⟨i, t, hi, ht, q2⟩ => ⟨i, t, by omega, put i t hi ht, q2⟩⟩
  · exact ((h.e5.mono fun j _ hj => .inl hj).trans' e2 fun j hj => .inl (.inl hj)).trans' e3 fun j hj => hj.elim
  · exact (h.e.trans' e2 fun j hj => .inr (h.v j hj)).trans e3
theorem lmOf_ok {z : Int} (h : 0 ≤ z) : 0 ≤ (lmOf z).1 ∧ (lmOf z).1 ≤ 3 ∧ ((lmOf z).2 = 1 ∨ (lmOf z).2 = 2) := by
  have h4 := Int.tmod_nonneg 4 h; have h4' := Int.tmod_lt_of_pos z (b := 4) (by decide)
  have h2 := Int.tmod_nonneg 2 h; have h2' := Int.tmod_lt_of_pos z (b := 2) (by decide)
  simp only [lmOf]; omega
theorem initS_len (logs : List Int) : (initS logs logs.length).length = logs.length := by simp [initS]
theorem initS_get {logs : List Int} {i : Nat} {s : ExS} (h : (initS logs logs.length)[i]? = some s) : s = ExS.init (lmOf (logs.getD i 0)) := by
  unfold initS at h
  rw [List.take_length, List.getElem?_map] at h
  cases hh : logs[i]? with
  | none => rw [hh] at h; cases h
  | some z => rw [hh] at h; rw [List.getD_eq_getElem?_getD, hh]; simpa using h.symm
theorem field_rd (c : Int) : (fieldA c 1 0).rd 2 1 = 0 := by
  have ht : tsize 0 = 16 := by decide
  simp [PA.rd, PA.get, fieldA_blk, lookW, ht]
/-- What they are when they begin. -/
theorem ExJ.start {room : Int} (logs : List Int) (_hz : ∀ z ∈ logs, 0 ≤ z ∧ z < 256) : ExJ logs.length (200 + 8 * room) (fun i => lmOf (logs.getD i 0)) (fieldA (200 + 8 * room) 1 0) (initS logs logs.length) := by
  have ht : tsize 0 = 16 := by decide
  have hno : ∀ (i : Nat) (s : ExS), (initS logs logs.length)[i]? = some s → ¬ s.owns ∧ s.state = 1 ∧ s.lk = 0 := fun i s hs => by
    rw [initS_get hs]; simp [ExS.owns, ExS.init]
  refine ⟨initS_len _, rfl, rfl, ?_, ?_, ?_, ?_, ?_, ?_, ?_, ?_, ?_, ?_⟩
  · exact ⟨((List.replicate (2 + 2 * 1 : Int).toNat (0 : Int)).set 0 2).set 1 16, by simp [PA.get, fieldA_blk, lookW], by simp⟩
  · exact ⟨(List.replicate (tsize 0).toNat (0 : Int)).set 0 0, by simp [PA.get, fieldA_blk, lookW], by simp [ht]⟩
  · intro i s hs
    rw [initS_get hs]
    exact ⟨rfl, rfl, rfl, .inl ⟨rfl, rfl⟩⟩
  · intro i s hs ho; exact absurd ho (hno i s hs).1
  · intro k hk
    simp only [PA.get, fieldA_blk, lookW] at hk
    by_cases h1 : k = 1
    · exact .inl h1
    · by_cases h2 : k = 2
      · exact .inr (.inl h2)
      · simp [h1, h2] at hk
  · intro i j s t hs _ ho; exact absurd ho (hno i s hs).1
  · have hl : (fieldA (200 + 8 * room) 1 0).last = 2 := by simp [fieldA, fieldA4, fieldA3, fieldA2, fieldA1, PA.put, PA.alloc, PA.new]
    rw [hl]
    have := List.countP_le_length (p := fun s : ExS => decide (s.state = 1)) (l := initS logs logs.length)
    rw [initS_len] at this
    omega
  · intro _ i s hs
    have := hno i s hs
    omega
  · intro h; exact absurd (field_rd _) h
  · intro i j s t hs _ ho; exact absurd ho.2 (by have := (hno i s hs).2.2; omega)
end Go.Proofs.YtlbphffnbhoghaaDoor
