/- ExtendOne's loops: what holds between two rounds. -/
import Derived.Test.YtlbphffnbhoghaaDoorExtLaw
namespace Go.Proofs.YtlbphffnbhoghaaDoor
open Go.RowKit
set_option maxRecDepth 100000
set_option linter.unusedVariables false
set_option linter.unusedSimpArgs false
set_option maxHeartbeats 2000000

theorem wrapi (x : Int) (h0 : -9223372036854775808 ≤ x) (h1 : x < 9223372036854775808) : IntKind.i64.wrap x = x := by
  rw [IntKind.wrap_i64]; omega
/-- The state that New makes. -/
def ExS.init (lm : Int × Int) : ExS := { tb := 2, tlog := 0, log := lm.1, mark := lm.2, block := 0, state := 1, lk := 0, lb := 0, lw := 0 }
def lmOf (z : Int) : Int × Int := (z.tmod 4, z.tmod 2 + 1)
def initS (logs : List Int) (k : Nat) : List ExS := (logs.take k).map fun z => ExS.init (lmOf z)
/-- Between two rounds of the loop that makes them. -/
structure E1 (w : World) (a : Nat) (A0 : PA) (logs : List Int) (b8 k : Nat) (v10 v11 : Value) (bs : List Nat) (V : Nat → Prop) (wr : World) : Prop where
  w0 : 0 < w.heap.size
  hk : k ≤ logs.length
  len : bs.length = k
  own10 : wr.ownsRow w.heap.size 68 1 v10 k (bs.map fun b => .iface 83 (ptr b))
  own11 : wr.ownsRow w.heap.size 83 1 v11 k (bs.map ptr)
  sys : Sys rExt wr a A0 bs (initS logs k) V
  v : ∀ j, V j → w.heap.size ≤ j
  nb : ¬ V b8
  g10 : ∀ g, v10.ownBlock = some g → ¬ V g ∧ g ≠ b8
  g11 : ∀ g, v11.ownBlock = some g → ¬ V g ∧ g ≠ b8
  ne : ∀ g, v10.ownBlock = some g → v11.ownBlock ≠ some g
  b8 : Blk wr b8 [u64 2, i64 0] 29
  e : Ext (fun _ => False) w wr
theorem infoR : (Tryd.prog.info? 68).map (fun i => (i.zero, i.size, i.bytes)) = some (some .nilIface, 1, 16) := by kernel_rfl
theorem infoX : (Tryd.prog.info? 83).map (fun i => (i.zero, i.size, i.bytes)) = some (some (.pointer none), 1, 8) := by kernel_rfl
theorem ext_grown {w w' : World} {row : Option Nat} (hg : w.grownBy w' row) : Ext (fun k => row = some k) w w' := ⟨hg.os, hg.tape, hg.output, hg.size, fun k hk hs => hg.block k hk (fun e => hs e.symm)⟩
theorem E1.step {w : World} {a : Nat} {A0 : PA} {logs : List Int} {b8 k : Nat} {v10 v11 : Value} {bs : List Nat} {V : Nat → Prop} {wr w2 w3 w4 : World} {z : Int} {b g10 g11 c10 c11 : Nat} {o1 o2 : Obj} (h : E1 w a A0 logs b8 k v10 v11 bs V wr) (hk : k < logs.length) (hz : logs[k] = z) (hzr : 0 ≤ z ∧ z < 256)
    (eN : Ext (fun _ => False) wr w2) (hB : Blk w2 b (ExS.init (lmOf z)).vals 147) (hge : wr.heap.size ≤ b)
    (hg1 : (w2.alloc o1).grownBy w3 v11.ownBlock) (hown1 : w3.ownsRow w.heap.size 83 1 (.slice (some ⟨g11, 0, none⟩) (k + 1) c11) (k + 1) (bs.map ptr ++ [ptr b])) (hat1 : v11.ownBlock = some g11 ∨ g11 = (w2.alloc o1).heap.size) (hlt1 : g11 < w3.heap.size)
    (hg2 : (w3.alloc o2).grownBy w4 v10.ownBlock) (hown2 : w4.ownsRow w.heap.size 68 1 (.slice (some ⟨g10, 0, none⟩) (k + 1) c10) (k + 1) (bs.map (fun b => .iface 83 (ptr b)) ++ [.iface 83 (ptr b)])) (hat2 : v10.ownBlock = some g10 ∨ g10 = (w3.alloc o2).heap.size) :
    E1 w a A0 logs b8 (k + 1) (.slice (some ⟨g10, 0, none⟩) (k + 1) c10) (.slice (some ⟨g11, 0, none⟩) (k + 1) c11) (bs ++ [b]) (grow V wr w2) w4 := by
  have s0 := h.e.size; have s1 := eN.size; have s2 := hg1.size; have s3 := hg2.size
  rw [World.size_alloc] at s2 s3
  have l10 := h.own10.lt; have l11 := h.own11.lt; have l8 := h.b8.lt
  have e1 := ((Ext.refl (fun _ => False) w2).alloc o1)
  have e2 := ext_grown hg1
  have e3 := ((Ext.refl (fun _ => False) w3).alloc o2)
  have e4 := ext_grown hg2
  rw [World.size_alloc] at hat1 hat2
  have n11 : ∀ g, v11.ownBlock = some g → ¬ grow V wr w2 g := by
    rintro g hg (h1 | h1)
    · exact (h.g11 g hg).1 h1
    · have := l11 g hg; omega
  have n10 : ∀ g, v10.ownBlock = some g → ¬ grow V wr w2 g := by
    rintro g hg (h1 | h1)
    · exact (h.g10 g hg).1 h1
    · have := l10 g hg; omega
  have hok : (ExS.init (lmOf z)).Ok := by
    have h4 := Int.tmod_nonneg 4 hzr.1; have h4' := Int.tmod_lt_of_pos z (b := 4) (by decide)
    have h2 := Int.tmod_nonneg 2 hzr.1; have h2' := Int.tmod_lt_of_pos z (b := 2) (by decide)
    exact ⟨by simp [ExS.init], by simp [ExS.init], by simpa [ExS.init, lmOf] using h4, by simp only [ExS.init, lmOf]; omega, by simp only [ExS.init, lmOf]; omega, by simp [ExS.init], by simp [ExS.init], by simp [ExS.init]⟩
  have hsys := h.sys.add (R := rExt) (F := fun j => j = b) (s := ExS.init (lmOf z)) eN ⟨hB, hok, fun _ => Iff.rfl⟩ (fun j hj => hj ▸ hge)
  have hlt2 := hsys.lt
  have htk : initS logs (k + 1) = initS logs k ++ [ExS.init (lmOf z)] := by
    unfold initS
    rw [List.take_add_one, List.getElem?_eq_getElem hk, hz]; simp
  refine ⟨h.w0, hk, by simp [h.len], by rw [List.map_append]; exact hown2, ?_, ?_, ?_, ?_, ?_, ?_, ?_, ?_, ?_⟩
  · rw [List.map_append]
    refine ownsRow_ext (ownsRow_ext hown1 e3 (fun _ _ h => h)) e4 ?_
    intro g hg hg'
    have : g11 = g := by simpa [Value.ownBlock] using hg
    subst this
    rcases hat1 with h1 | h1
    · exact h.ne _ hg' h1
    · have := l10 _ hg'; omega
  · rw [htk]
    exact ((((hsys.keep0 e1).keep e2 (fun j hj hj' => hj.elim (n11 j hj') (fun e => by have := (l11 j hj').1; have := h.w0; omega))).keep0 e3).keep e4 (fun j hj hj' => hj.elim (n10 j hj') (fun e => by have := (l10 j hj').1; have := h.w0; omega)))
  · exact grow.ge h.v (by omega)
  · exact grow.no h.nb l8
  · intro g hg
    have : g10 = g := by simpa [Value.ownBlock] using hg
    subst this
    rcases hat2 with h1 | h1
    · exact ⟨n10 _ h1, (h.g10 _ h1).2⟩
    · exact ⟨fun h2 => by have := hlt2 _ h2; omega, by omega⟩
  · intro g hg
    have : g11 = g := by simpa [Value.ownBlock] using hg
    subst this
    rcases hat1 with h1 | h1
    · exact ⟨n11 _ h1, (h.g11 _ h1).2⟩
    · exact ⟨fun h2 => by have := hlt2 _ h2; omega, by omega⟩
  · intro g hg hg'
    have h1 : g10 = g := by simpa [Value.ownBlock] using hg
    have h2 : g11 = g := by simpa [Value.ownBlock] using hg'
    subst h1
    rcases hat2 with h3 | h3 <;> rcases hat1 with h4 | h4
    · exact h.ne _ h3 (by rw [h4, h2])
    · have := l10 _ h3; omega
    · have := l11 _ h4; omega
    · omega
  · exact (((((h.b8.ext eN id).alloc o1).ext e2 (fun hh => (h.g11 _ hh).2 rfl)).alloc o2).ext e4 (fun hh => (h.g10 _ hh).2 rfl))
  · exact ((((h.e.trans eN).alloc o1).trans' e2 (fun j hj => .inr (l11 j hj).1)).alloc o2).trans' e4 (fun j hj => .inr (l10 j hj).1)
/-- Between two rounds of the loop that looks at them: so many are looked at, and done. -/
structure E2 (w : World) (a : Nat) (n : Nat) (c : Int) (L : Nat → Int × Int) (b8 gA gO : Nat) (w5 : World) (bs : List Nat) (k : Nat) (lk ls wd : Int) (A : PA) (ss : List ExS) (V : Nat → Prop) (wr : World) : Prop where
  hk : k ≤ n
  j : ExJ n c L A ss
  sys : Sys rExt wr a A bs ss V
  done : ∀ (i : Nat) (s : ExS), i < k → ss[i]? = some s → s.state = 0
  lk : (lk = 0 ∧ ∀ (i : Nat) (s : ExS), i < k → ss[i]? = some s → s.lk ≠ 2) ∨ (lk = 1 ∧ ∃ (i : Nat) (s : ExS), i < k ∧ ss[i]? = some s ∧ s.lk = 2 ∧ wd = s.lw)
  ls : 0 ≤ ls ∧ ls ≤ k ∧ (ls = 0 ∨ ∃ (i : Nat) (s : ExS), i < k ∧ ss[i]? = some s ∧ s.lk = 3)
  v : ∀ j, V j → w.heap.size ≤ j
  nb : ¬ V b8
  nA : ¬ V gA
  nO : ¬ V gO
  e5 : Ext V w5 wr
  e : Ext (fun _ => False) w wr
end Go.Proofs.YtlbphffnbhoghaaDoor
