/- Memory: slices that read as lists, memory of the call's own, what a step keeps. Lemmas in the form of the printed conditions. No condition. -/
import Derived.Test.YtleiddajojgmmaaVf
import Derived.Laws.OwnMore
import Derived.Laws.AppendOwn
import Derived.Lib.SliceRun
import Derived.Laws.MakeOwn
import Derived.Laws.CopyRow
namespace Go.Proofs.Ytleiddajojgmmaa.VC
open Go Go.RowKit
set_option linter.unusedSimpArgs false
set_option linter.unusedVariables false

/-- Of what was there nothing has turned but blocks of S. -/
structure Fr (S : Nat → Prop) (w w' : World) : Prop where
  os : w'.os = w.os
  tape : w'.tape = w.tape
  output : w'.output = w.output
  size : w.heap.size ≤ w'.heap.size
  block : ∀ k, k < w.heap.size → ¬ S k → w'.heap[k]? = w.heap[k]?
theorem Fr.refl (S : Nat → Prop) (w : World) : Fr S w w := ⟨rfl, rfl, rfl, Nat.le_refl _, fun _ _ _ => rfl⟩
theorem Fr.trans {S : Nat → Prop} {a b c : World} (h : Fr S a b) (k : Fr S b c) : Fr S a c :=
  ⟨k.os.trans h.os, k.tape.trans h.tape, k.output.trans h.output, Nat.le_trans h.size k.size, fun i hi hs => (k.block i (by have := h.size; omega) hs).trans (h.block i hi hs)⟩
theorem Fr.mono {S S' : Nat → Prop} {a b : World} (h : Fr S a b) (hs : ∀ k, k < a.heap.size → S k → S' k) : Fr S' a b :=
  ⟨h.os, h.tape, h.output, h.size, fun i hi hn => h.block i hi fun hk => hn (hs i hi hk)⟩
theorem Fr.of_grow {S : Nat → Prop} {a b : World} (h : Grow a b) : Fr S a b := ⟨h.os, h.tape, h.output, h.size, fun i hi _ => h.block i hi⟩
/-- What only turned blocks that were not there at first: nothing of the first world has turned. -/
theorem Grow.fr {S : Nat → Prop} {a b c : World} (h : Grow a b) (k : Fr S b c) (hs : ∀ i, i < a.heap.size → ¬ S i) : Grow a c :=
  ⟨k.os.trans h.os, k.tape.trans h.tape, k.output.trans h.output, Nat.le_trans h.size k.size, fun i hi => (k.block i (by have := h.size; omega) (hs i hi)).trans (h.block i hi)⟩
theorem Fr.of_grown {w w' : World} {r : Option Nat} (h : w.grownBy w' r) : Fr (fun k => some k = r) w w' := ⟨h.os, h.tape, h.output, h.size, h.block⟩
theorem Fr.cell {S : Nat → Prop} {w w' : World} (h : Fr S w w') {a : Addr} {v : Value} (hc : w.cell? a = some v) (hs : ¬ S a.block) : w'.cell? a = some v :=
  (World.cell?_of_block (h.block a.block (World.block_lt_of_cell? w a hc) hs)).trans hc
theorem Fr.frozen {S : Nat → Prop} {w w' : World} (h : Fr S w w') {a : Addr} (hlt : a.block < w.heap.size) (hs : ¬ S a.block) : w'.frozen? a = w.frozen? a :=
  World.frozen?_of_block (h.block a.block hlt hs)
theorem grow_frozen {w w' : World} (h : Grow w w') {a : Addr} (hlt : a.block < w.heap.size) : w'.frozen? a = w.frozen? a :=
  World.frozen?_of_block (h.block a.block hlt)

/-- What a new block is good for. -/
theorem alloc_grow {w w' : World} {o : Obj} (h : w' = w.alloc o) : Grow w w' := by subst h; exact (Grow.refl w).alloc o
theorem alloc_size {w w' : World} {o : Obj} (h : w' = w.alloc o) : w'.heap.size = w.heap.size + 1 := by subst h; simp
theorem alloc_cell {w w' : World} {cs : Array Value} {e : TypeId} (h : w' = w.alloc (.cells cs e)) (j : Nat) : w'.cell? ⟨w.heap.size, j, none⟩ = cs[j]? := by subst h; simp
theorem alloc_cell0 {w w' : World} {v : Value} {e : TypeId} (h : w' = w.alloc (.cells #[v] e)) : w'.cell? ⟨w.heap.size, 0, none⟩ = some v := by subst h; simp
theorem alloc_free {w w' : World} {cs : Array Value} {e : TypeId} (h : w' = w.alloc (.cells cs e)) (j : Nat) : w'.frozen? ⟨w.heap.size, j, none⟩ = false := by subst h; simp

/-- A box of one cell that may be written. -/
structure Box (w : World) (b : Nat) (v : Value) : Prop where
  cell : w.cell? ⟨b, 0, none⟩ = some v
  free : w.frozen? ⟨b, 0, none⟩ = false
theorem Box.lt {w : World} {b : Nat} {v : Value} (h : Box w b v) : b < w.heap.size := World.block_lt_of_cell? w _ h.cell
theorem Box.new {w w' : World} {v : Value} {e : TypeId} (h : w' = w.alloc (.cells #[v] e)) : Box w' w.heap.size v := ⟨alloc_cell0 h, alloc_free h 0⟩
theorem Box.fr {S : Nat → Prop} {w w' : World} {b : Nat} {v : Value} (h : Box w b v) (hf : Fr S w w') (hs : ¬ S b) : Box w' b v :=
  ⟨hf.cell h.cell hs, (hf.frozen (a := ⟨b, 0, none⟩) h.lt hs).trans h.free⟩
theorem Box.grow {w w' : World} {b : Nat} {v : Value} (h : Box w b v) (hf : Grow w w') : Box w' b v := h.fr (Fr.of_grow (S := fun _ => False) hf) id
theorem Box.set {w w' : World} {b : Nat} {v x : Value} (h : Box w b v) (hw : w' = w.setCell ⟨b, 0, none⟩ x) : Box w' b x := by
  subst hw
  exact ⟨World.cell?_setCell_same w _ _ h.cell, by simp [h.free]⟩
theorem set_fr {w w' : World} {a : Addr} {x : Value} (hw : w' = w.setCell a x) : Fr (fun k => k = a.block) w w' := by
  subst hw
  exact ⟨rfl, rfl, rfl, by simp, fun k _ hk => Below.heap_setCell _ _ _ _ hk⟩

/-! ## Slices -/
/-- A slice of n elements whose cells read as cs. -/
structure SlC (w : World) (v : Value) (n : Nat) (cs : List Value) : Prop where
  ex : ∃ (a : Option Addr) (c : Nat), v = .slice a n c ∧ n ≤ c ∧ c ≤ 9223372036854775807 ∧ (a = none → c = 0) ∧ ∀ j u, cs[j]? = some u → ∃ b, a = some b ∧ w.cell? (b.add j) = some u
theorem SlC.fr {S : Nat → Prop} {w w' : World} {v : Value} {n : Nat} {cs : List Value} (h : SlC w v n cs) (hf : Fr S w w') (hs : ∀ a m c, v = .slice (some a) m c → ¬ S a.block) : SlC w' v n cs := by
  obtain ⟨a, c, rfl, h1, h2, h3, h4⟩ := h
  refine ⟨a, c, rfl, h1, h2, h3, fun j u hj => ?_⟩
  obtain ⟨b, rfl, hb⟩ := h4 j u hj
  refine ⟨b, rfl, hf.cell hb ?_⟩
  have : (b.add j).block = b.block := by unfold Addr.add; split <;> rfl
  rw [this]
  exact hs b n c rfl
theorem SlC.grow {w w' : World} {v : Value} {n : Nat} {cs : List Value} (h : SlC w v n cs) (hf : Grow w w') : SlC w' v n cs := h.fr (Fr.of_grow (S := fun _ => False) hf) fun _ _ _ _ => id
theorem SlC.dr {w : World} {v : Value} {n : Nat} {cs : List Value} (h : SlC w v n cs) (m : Nat) : SlC (dr w m) v n cs := h.grow ((Grow.refl w).dr m)
theorem SlC.nil (w : World) : SlC w (.slice none 0 0) 0 [] := ⟨none, 0, rfl, by omega, by omega, fun _ => rfl, fun j u h => by simp at h⟩
theorem SlC.one {w : World} {v : Value} {n : Nat} {cs : List Value} (h : SlC w v n cs) : oneV v := by
  obtain ⟨a, c, rfl, _⟩ := h.ex; exact ⟨rfl, rfl⟩
theorem SlC.len_le {w : World} {v : Value} {n : Nat} {cs : List Value} (h : SlC w v n cs) : n ≤ 9223372036854775807 := by
  obtain ⟨a, c, rfl, h1, h2, _⟩ := h.ex; omega
theorem SlC.ln {w : World} {v : Value} {n : Nat} {cs : List Value} (h : SlC w v n cs) {K : Nat → Prop} (hk : K n) : ∃ (a : Option Addr) (m c : Nat), v = .slice a m c ∧ K m := by
  obtain ⟨a, c, rfl, _⟩ := h.ex; exact ⟨a, n, c, rfl, hk⟩
theorem SlC.ext {w : World} {v : Value} {n : Nat} {cs cs' : List Value} (h : SlC w v n cs) (e : ∀ (j : Nat) (u : Value), cs'[j]? = some u → cs[j]? = some u) : SlC w v n cs' := by
  obtain ⟨a, c, rfl, h1, h2, h3, h4⟩ := h.ex
  exact ⟨a, c, rfl, h1, h2, h3, fun j u hj => h4 j u (e j u hj)⟩

def encI (x : Int) : Value := .int .i64 x
/-- A slice of ints. -/
def SlI (w : World) (v : Value) (xs : List Int) : Prop := SlC w v xs.length (xs.map encI)
theorem SlI.grow {w w' : World} {v : Value} {xs : List Int} (h : SlI w v xs) (hf : Grow w w') : SlI w' v xs := SlC.grow h hf
theorem SlI.dr {w : World} {v : Value} {xs : List Int} (h : SlI w v xs) (m : Nat) : SlI (dr w m) v xs := SlC.dr h m
theorem SlI.nil (w : World) : SlI w (.slice none 0 0) [] := SlC.nil w
theorem SlI.one {w : World} {v : Value} {xs : List Int} (h : SlI w v xs) : oneV v := SlC.one h
theorem SlI.len_le {w : World} {v : Value} {xs : List Int} (h : SlI w v xs) : xs.length ≤ 9223372036854775807 := SlC.len_le h
theorem SlI.ln {w : World} {v : Value} {xs : List Int} (h : SlI w v xs) {K : Nat → Prop} (hk : K xs.length) : ∃ (a : Option Addr) (m c : Nat), v = .slice a m c ∧ K m := SlC.ln h hk
theorem SlI.rd {w : World} {v : Value} {xs : List Int} (h : SlI w v xs) {i : Nat} {j : Int} (hj : j = (i : Int)) (hi : i < xs.length) {K : Int → Prop} (hk : K xs[i]) :
    ∃ (a : Addr) (m c : Nat), v = .slice (some a) m c ∧ ((0 : Int) ≤ j ∧ j < (m : Int)) ∧ ∃ t : Int, w.cell? (a.add (Int.toNat j * 1)) = some (.int .i64 t) ∧ K t := by
  subst hj
  obtain ⟨a, c, rfl, h1, h2, h3, h4⟩ := h.ex
  obtain ⟨b, rfl, hb⟩ := h4 i (encI xs[i]) (by simp [hi])
  exact ⟨b, _, c, rfl, ⟨by omega, by omega⟩, xs[i], by simpa [encI] using hb, hk⟩
/-- The beginning of a slice. -/
theorem SlI.upto {w : World} {v : Value} {xs : List Int} (h : SlI w v xs) {i : Nat} {k : IntKind} {z : Int} (hz : z = (i : Int)) (hi : i ≤ xs.length) {K : Value → Prop} (hk : ∀ v', SlI w v' (xs.take i) → K v') :
    ∃ (a : Option Addr) (n c : Nat), v = .slice a n c ∧ ∃ l hh m : Nat, sbR none (some (.int k z)) none n c l hh m ∧ K (.slice (if m = l then a else a.map (·.add (l * 1))) (hh - l) (m - l)) := by
  subst hz
  obtain ⟨a, c, rfl, h1, h2, h3, h4⟩ := h.ex
  refine ⟨a, _, c, rfl, 0, i, c, ⟨rfl, rfl, rfl, by simp, by omega, by omega, by omega⟩, hk _ ?_⟩
  refine ⟨a, c, ?_, by simp; omega, h2, h3, fun j u hj => ?_⟩
  · have : (xs.take i).length = i := by simp; omega
    rw [this]
    by_cases hc : c = 0
    · simp [hc]
    · rw [if_neg hc]
      cases a <;> simp [Addr.add]
  · refine h4 j u ?_
    simp only [List.map_take, List.getElem?_take] at hj
    split at hj
    · exact hj
    · cases hj

/-! ## Slices of the call's own -/
structure ElT (P : Program) (t e : TypeId) (sz bytes : Nat) (z : Value) : Prop where
  und : P.underlying t = some (.slice e)
  info : ∃ i, P.info? e = some i ∧ i.zero = some z ∧ i.size = sz ∧ i.bytes = bytes
  zs : z.cells.size = sz
/-- A slice of n elements that the call owns (from block B on), its cells cs. -/
abbrev Own (w : World) (B : Nat) (e : TypeId) (sz : Nat) (v : Value) (n : Nat) (cs : List Value) : Prop := w.ownsRow B e sz v n cs
theorem Own.slC {w : World} {B : Nat} {e : TypeId} {sz : Nat} {v : Value} {n : Nat} {cs : List Value} (h : Own w B e sz v n cs) : SlC w v n cs := by
  have hc := fun g => World.ownsRow.cells (g := g) h
  rcases h.2 with ⟨rfl, hn⟩ | ⟨g, cap, cur, rfl, hb, hg, h1, h2, h3, h4⟩
  · subst hn
    have : cs = [] := by have := h.1; simp at this; exact this
    subst this
    exact SlC.nil w
  · refine ⟨some ⟨g, 0, none⟩, cap, rfl, h1, by simpa [maxLen] using h2, (fun h => by cases h), fun j u hj => ⟨_, rfl, ?_⟩⟩
    exact hc g rfl j u hj
theorem Own.slI {w : World} {B : Nat} {e : TypeId} {v : Value} {n : Nat} {xs : List Int} (h : Own w B e 1 v n (xs.map encI)) : SlI w v xs := by
  have := h.slC
  have hn : xs.length = n := by have := h.1; simpa using this
  subst hn
  exact this
theorem Own.nil (w : World) (B : Nat) (e : TypeId) (sz : Nat) : Own w B e sz (.slice none 0 0) 0 [] := World.ownsRow_nil w B e sz
theorem Own.fr {S : Nat → Prop} {w w' : World} {B : Nat} {e : TypeId} {sz : Nat} {v : Value} {n : Nat} {cs : List Value} (h : Own w B e sz v n cs) (hf : Fr S w w') (hs : ∀ k, v.ownBlock = some k → ¬ S k) : Own w' B e sz v n cs := by
  refine ⟨h.1, ?_⟩
  rcases h.2 with hn | ⟨g, cap, cur, rfl, hb, hgg, rest⟩
  · exact .inl hn
  · exact .inr ⟨g, cap, cur, rfl, hb, (hf.block g (Array.getElem?_eq_some_iff.1 hgg).1 (hs g rfl)).trans hgg, rest⟩
theorem Own.grow {w w' : World} {B : Nat} {e : TypeId} {sz : Nat} {v : Value} {n : Nat} {cs : List Value} (h : Own w B e sz v n cs) (hf : Grow w w') : Own w' B e sz v n cs := h.fr (Fr.of_grow (S := fun _ => False) hf) fun _ _ => id
theorem Own.dr {w : World} {B : Nat} {e : TypeId} {sz : Nat} {v : Value} {n : Nat} {cs : List Value} (h : Own w B e sz v n cs) (m : Nat) : Own (dr w m) B e sz v n cs := h.grow ((Grow.refl w).dr m)
theorem Own.mono {w : World} {B B' : Nat} {e : TypeId} {sz : Nat} {v : Value} {n : Nat} {cs : List Value} (h : Own w B e sz v n cs) (hB : B' ≤ B) : Own w B' e sz v n cs := by
  refine ⟨h.1, ?_⟩
  rcases h.2 with hn | ⟨g, cap, cur, rfl, hb, rest⟩
  · exact .inl hn
  · exact .inr ⟨g, cap, cur, rfl, by omega, rest⟩
theorem Own.lt {w : World} {B : Nat} {e : TypeId} {sz : Nat} {v : Value} {n : Nat} {cs : List Value} (h : Own w B e sz v n cs) {k : Nat} (hk : v.ownBlock = some k) : B ≤ k ∧ k < w.heap.size := World.ownsRow.lt h k hk
theorem Own.one {w : World} {B : Nat} {e : TypeId} {sz : Nat} {v : Value} {n : Nat} {cs : List Value} (h : Own w B e sz v n cs) : oneV v := h.slC.one
/-- A slice literal. -/
theorem Own.lit {w w' : World} {B : Nat} {e : TypeId} {cs : Array Value} {n sz : Nat} (h : w' = w.alloc (.cells cs e)) (hB : B ≤ w.heap.size) (hn : n ≤ 9223372036854775807) (hs : cs.size = n * sz) :
    Own w' B e sz (.slice (some ⟨w.heap.size, 0, none⟩) n n) n cs.toList := by
  subst h
  exact World.ownsRow_lit w cs n hB (by simpa [maxLen] using hn) hs
/-- append onto a slice of the call's own. -/
theorem papp {P : Program} {t ty e : TypeId} {sz bytes : Nat} {z : Value} (hT : ElT P t e sz bytes z) (hsz : 0 < sz) {w : World} {B : Nat} {v x : Value} {n m : Nat} {xs news : List Value} (hown : Own w B e sz v n xs) (hx : SlC w x m news) (hm : news.length = m * sz) (h1 : ∀ u ∈ news, u.oneCell' = true)
    (hB : B ≤ w.heap.size) (hlen : (n + m) * bytes ≤ 140737488355328) (hb : 0 < bytes) {K : Value → World → Prop}
    (hk : ∀ v' w', Own w' B e sz v' (n + m) (xs ++ news) → Fr (fun k => some k = v.ownBlock) w w' → (v' = .slice none 0 0 → n + m = 0) → K v' w') : PApp P t ty v x w K := by
  obtain ⟨i, hi, hz, hsize, hby⟩ := hT.info
  obtain ⟨a, c, rfl, hmc, hc, hnone, hcells⟩ := hx.ex
  cases a with
  | none =>
    have hc0 := hnone rfl
    subst hc0
    have hm0 : m = 0 := by omega
    subst hm0
    have hnews : news = [] := by simpa using hm
    subst hnews
    refine ⟨v, w, run_append_owned_none (P := P) w B t ty e i sz hT.und hi v n xs hown, hk _ _ (by simpa using hown) (Fr.refl _ _) ?_⟩
    intro hv
    rcases hown.2 with ⟨_, h0⟩ | ⟨g, cap, cur, rfl, _⟩
    · simpa using h0
    · cases hv
  | some a =>
    have hnm : n + m ≤ maxLen := by
      simp only [maxLen]
      have : n + m ≤ (n + m) * bytes := Nat.le_mul_of_pos_right _ hb
      omega
    obtain ⟨v', w', hr, ho, hg, hnil⟩ := run_append_own (P := P) w B t ty e i z sz bytes hT.und hi hz hsize hby hT.zs hsz v n xs hown a m c news hm
      (fun j u hj => by obtain ⟨b, hb', hcc⟩ := hcells j u hj; cases hb'; exact hcc) h1 hnm hlen hB
    refine ⟨v', w', hr, hk v' w' ho (Fr.of_grown hg) ?_⟩
    intro hv
    have h2 := hnil.1 hv
    have hn0 : n = 0 := by
      rcases hown.2 with ⟨_, h0⟩ | ⟨g, cap, cur, rfl, _⟩
      · exact h0
      · cases h2.1
    omega
/-- append of one element. -/
theorem papp1 {P : Program} {t ty e : TypeId} {bytes : Nat} {z : Value} (hT : ElT P t e 1 bytes z) {w w1 : World} {B : Nat} {v u : Value} {n : Nat} {xs : List Value} (hw : w1 = w.alloc (.cells #[u] e)) (hown : Own w B e 1 v n xs) (hu : u.oneCell' = true)
    (hB : B ≤ w.heap.size) (hlen : (n + 1) * bytes ≤ 140737488355328) (hb : 0 < bytes) {K : Value → World → Prop}
    (hk : ∀ v' w', Own w' B e 1 v' (n + 1) (xs ++ [u]) → Fr (fun k => some k = v.ownBlock) w1 w' → v' ≠ .slice none 0 0 → K v' w') : PApp P t ty v (.slice (some ⟨w.heap.size, 0, none⟩) 1 1) w1 K := by
  have hl := Own.lit (B := w.heap.size) (n := 1) (sz := 1) hw (Nat.le_refl _) (by omega) (by simp)
  refine papp hT (by omega) (hown.grow (alloc_grow hw)) hl.slC (by simp) (by simpa using hu) (by rw [alloc_size hw]; omega) hlen hb ?_
  intro v' w' ho hf hn
  exact hk v' w' ho hf fun e => by have := hn e; omega

/-! ## nil -/
theorem nilEq {P : Program} {t e : TypeId} (ht : P.underlying t = some (.slice e)) {ox : Operand} {c : Value} {a : Option Addr} {n m : Nat} : PBinR P .eql t ox (.const c) (.slice a n m) (.slice none 0 0) a.isNone := by
  intro w
  have hg : eqGuard .eql t ox (.const c) (.slice a n m) (.slice none 0 0) = pure () := by simp [eqGuard_at_slice]
  simp only [hg, Sem.run_bind, Sem.run_pure, Result.andThen_ok]
  exact Lib.run_eql_slice_nil w t e a n m 0 0 ht
end Go.Proofs.Ytleiddajojgmmaa.VC

/- append of one element, and whether the result shares its array with what it was appended to: for functions that append to one slice again and again. No condition. -/
namespace Go.Proofs.Ytleiddajojgmmaa.VC
open Go Go.RowKit
set_option linter.unusedSimpArgs false
set_option linter.unusedVariables false

/-- v' came of v by append: in v's array, or in a new one. -/
def Kin (w w' : World) (v v' : Value) (n : Nat) : Prop :=
  (∃ g cap, v = .slice (some ⟨g, 0, none⟩) n cap ∧ v' = .slice (some ⟨g, 0, none⟩) (n + 1) cap) ∨ (∃ k, v'.ownBlock = some k ∧ w.heap.size ≤ k ∧ Grow w w')
theorem papp1k {P : Program} {t ty e : TypeId} {bytes : Nat} {z : Value} (hT : ElT P t e 1 bytes z) {w w1 : World} {B : Nat} {v u : Value} {n : Nat} {xs : List Value} (hw : w1 = w.alloc (.cells #[u] e)) (hown : Own w B e 1 v n xs) (hu : u.oneCell' = true)
    (hB : B ≤ w.heap.size) (hlen : (n + 1) * bytes ≤ 140737488355328) (hb : 0 < bytes) {K : Value → World → Prop}
    (hk : ∀ v' w', Own w' B e 1 v' (n + 1) (xs ++ [u]) → Fr (fun k => some k = v.ownBlock) w1 w' → Kin w1 w' v v' n → K v' w') : PApp P t ty v (.slice (some ⟨w.heap.size, 0, none⟩) 1 1) w1 K := by
  obtain ⟨i, hi, hz, hsize, hby⟩ := hT.info
  have hown1 := hown.grow (alloc_grow hw)
  have hB1 : B ≤ w1.heap.size := by rw [alloc_size hw]; omega
  have hn : ∀ j y, [u][j]? = some y → w1.cell? ((⟨w.heap.size, 0, none⟩ : Addr).add j) = some y := fun j y hj => by
    obtain ⟨hj1, hj2⟩ := List.getElem?_eq_some_iff.1 hj
    have hj0 : j = 0 := by simpa using hj1
    subst hj0
    simp at hj2
    subst hj2
    exact alloc_cell0 hw
  have h1 : ∀ y ∈ [u], y.oneCell' = true := fun y hy => by
    have : y = u := by simpa using hy
    rw [this]; exact hu
  have hnl : n + 1 ≤ (n + 1) * bytes := Nat.le_mul_of_pos_right _ hb
  have hnm : n + 1 ≤ maxLen := by simp only [maxLen]; omega
  obtain ⟨v', w', hr, ho, hg, hnil⟩ := run_append_own (P := P) w1 B t ty e i z 1 bytes hT.und hi hz hsize hby hT.zs (by omega) v n xs hown1 _ 1 1 [u] (by simp) hn h1 hnm hlen hB1
  refine ⟨v', w', hr, hk v' w' ho (Fr.of_grown hg) ?_⟩
  have fresh : ∀ (a : Nat) (o : Obj), v'.ownBlock = some w1.heap.size → w' = w1.drew.alloc o → Kin w1 w' v v' n := fun a o h1 h2 => by
    refine .inr ⟨_, h1, Nat.le_refl _, ?_⟩
    subst h2
    exact (Below.drew (Grow.refl w1)).alloc (Nat.le_refl _) _
  rcases hown1.2 with ⟨rfl, rfl⟩ | ⟨g, cap, cur, rfl, hbg, hgg, hnc, hcm, hcs, htake⟩
  · have hr2 := run_append_nil (P := P) w1 t ty e i z hT.und hi hz _ 1 1 [u] (by simp [hsize]) hn (by omega) (by omega) (by rw [hby]; omega)
    rw [hr] at hr2
    simp only [Result.ok.injEq] at hr2
    obtain ⟨rfl, rfl⟩ := hr2
    exact fresh 0 _ rfl rfl
  · by_cases hroom : n + 1 ≤ cap
    · have hfit : n * i.size + [u].length ≤ cur.size := by rw [hsize, hcs]; simp; omega
      have hr2 := run_append_room (P := P) w1 t ty e i hT.und hi g n cap cur hgg _ 1 1 [u] (by simp [hsize]) hn h1 hroom hfit
      rw [hr] at hr2
      simp only [Result.ok.injEq] at hr2
      obtain ⟨rfl, rfl⟩ := hr2
      exact .inl ⟨g, cap, rfl, rfl⟩
    · have holds : ∀ j y, xs[j]? = some y → w1.cell? ((⟨g, 0, none⟩ : Addr).add j) = some y := World.ownsRow.cells (g := g) hown1 rfl
      have hr2 := run_append_grow (P := P) w1 t ty e i z hT.und hi hz ⟨g, 0, none⟩ n cap xs (by rw [hsize]; exact hown1.1) holds _ 1 1 [u] (by simp [hsize]) hn (by omega) (by omega) (growslice_fits (by omega) (by rw [hby]; exact hlen))
      rw [hr] at hr2
      simp only [Result.ok.injEq] at hr2
      obtain ⟨rfl, rfl⟩ := hr2
      exact fresh 0 _ rfl rfl
/-- What was appended to reads as it did, once the result does. -/
theorem kin_back {S : Nat → Prop} {w w' w2 : World} {B : Nat} {e : TypeId} {v v' u : Value} {n : Nat} {xs : List Value} (hk : Kin w w' v v' n) (ho : Own w B e 1 v n xs) (ho2 : Own w2 B e 1 v' (n + 1) (xs ++ [u])) (hf : Fr S w' w2)
    (hs : ∀ k, S k → some k = v'.ownBlock ∨ v.ownBlock ≠ some k) : Own w2 B e 1 v n xs := by
  rcases hk with ⟨g, cap, rfl, rfl⟩ | ⟨k, hv', hk, hg⟩
  · refine ⟨ho.1, .inr ?_⟩
    rcases ho2.2 with ⟨h, _⟩ | ⟨g', cap', cur, he, hb, hgg, hnc, hcm, hcs, htake⟩
    · cases h
    · simp only [Value.slice.injEq, Option.some.injEq, Addr.mk.injEq, and_true, true_and] at he
      obtain ⟨rfl, rfl⟩ := he
      refine ⟨g, cap, cur, rfl, hb, hgg, by omega, hcm, hcs, ?_⟩
      have hl := ho.1
      have h3 := congrArg (List.take (n * 1)) htake
      rw [List.take_take] at h3
      have e1 : min (n * 1) ((n + 1) * 1) = n * 1 := by omega
      rw [e1] at h3
      rw [h3, ← hl]
      simp
  · refine (ho.grow hg).fr hf fun j hj hsj => ?_
    have hlt := (Own.lt ho hj).2
    rcases hs j hsj with h | h
    · rw [hv'] at h
      simp at h; omega
    · exact h hj
end Go.Proofs.Ytleiddajojgmmaa.VC

/- An array of the call's own that is written in place; make. No condition. -/
namespace Go.Proofs.Ytleiddajojgmmaa.VC
open Go Go.RowKit
set_option linter.unusedSimpArgs false
set_option linter.unusedVariables false

theorem Own.set {w w' : World} {B : Nat} {e : TypeId} {g n cap i : Nat} {cs : List Value} {u : Value} (h : Own w B e 1 (.slice (some ⟨g, 0, none⟩) n cap) n cs) (hi : i < n) (hw : w' = w.setCell ⟨g, i, none⟩ u) : Own w' B e 1 (.slice (some ⟨g, 0, none⟩) n cap) n (cs.set i u) := by
  subst hw
  refine ⟨by simpa using h.1, .inr ?_⟩
  rcases h.2 with ⟨h1, _⟩ | ⟨g', cap', cur, he, hb, hgg, hnc, hcm, hcs, htake⟩
  · cases h1
  · simp only [Value.slice.injEq, Option.some.injEq, Addr.mk.injEq, and_true, true_and] at he
    obtain ⟨rfl, rfl⟩ := he
    refine ⟨g, cap, cur.setIfInBounds i u, rfl, hb, ?_, hnc, hcm, by simpa using hcs, ?_⟩
    · simp [World.setCell, Array.getElem?_modify, hgg]
    · rw [Array.toList_setIfInBounds, List.take_set, htake]
theorem Own.wr {w : World} {B : Nat} {e : TypeId} {g n cap i : Nat} {cs : List Value} (h : Own w B e 1 (.slice (some ⟨g, 0, none⟩) n cap) n cs) (hi : i < n) : (∃ old, w.cell? ⟨g, i, none⟩ = some old) ∧ w.frozen? ⟨g, i, none⟩ = false := by
  rcases h.2 with ⟨h1, _⟩ | ⟨g', cap', cur, he, hb, hgg, hnc, hcm, hcs, htake⟩
  · cases h1
  · simp only [Value.slice.injEq, Option.some.injEq, Addr.mk.injEq, and_true, true_and] at he
    obtain ⟨rfl, rfl⟩ := he
    have hl : i < cur.size := by omega
    refine ⟨⟨cur[i], ?_⟩, ?_⟩
    · simp [World.cell?, hgg, hl]
    · simp [World.frozen?, hgg]
theorem made_toList (z : Value) (n : Nat) : (madeCells #[z] n).toList = List.replicate n z := by
  apply List.ext_getElem
  · simp [madeCells]
  · intro i h1 h2
    simp [madeCells, Nat.mod_one]
/-- make([]T, n). -/
theorem Own.made {w w' : World} {B : Nat} {e : TypeId} {n m : Nat} {z : Value} (hw : w' = w.alloc (.cells (madeCells #[z] m) e)) (hm : m = n) (hB : B ≤ w.heap.size) (hn : n ≤ 9223372036854775807) : Own w' B e 1 (.slice (some ⟨w.heap.size, 0, none⟩) n n) n (List.replicate n z) := by
  subst hm
  have := Own.lit (n := m) (sz := 1) hw hB hn (by simp [madeCells])
  rwa [made_toList] at this
end Go.Proofs.Ytleiddajojgmmaa.VC

/- Bits: Go's operations on small sets, as operations on numbers. No program, no condition. -/
namespace Go.Proofs.Ytleiddajojgmmaa.VC
open Go Go.RowKit
set_option linter.unusedSimpArgs false
set_option linter.unusedVariables false

theorem wrap_nat {n : Nat} (h : n < 9223372036854775808) : IntKind.i64.wrap (n : Int) = n := by rw [IntKind.wrap_i64]; omega
theorem bits64 : IntKind.i64.bits = 64 := rfl
theorem ofInt_nat {n : Nat} (h : n < 9223372036854775808) : (BitVec.ofInt 64 (n : Int)).toNat = n := by
  rw [BitVec.toNat_ofInt]; omega
/-- a without b. -/
def nSub (a b : Nat) : Nat := a ^^^ (a &&& b)
theorem nSub_bit (a b i : Nat) : (nSub a b).testBit i = (a.testBit i && !b.testBit i) := by
  simp only [nSub, Nat.testBit_xor, Nat.testBit_and]
  cases a.testBit i <;> cases b.testBit i <;> rfl
theorem and_lt {a b n : Nat} (h : a < 2 ^ n) : a &&& b < 2 ^ n := Nat.lt_of_le_of_lt Nat.and_le_left h
theorem nSub_lt {a b n : Nat} (h : a < 2 ^ n) : nSub a b < 2 ^ n := Nat.xor_lt_two_pow h (and_lt h)
theorem iAnd_nat {a b : Nat} (ha : a < 9223372036854775808) (hb : b < 9223372036854775808) : iAnd .i64 (a : Int) (b : Int) = ((a &&& b : Nat) : Int) := by
  have h : a &&& b < 9223372036854775808 := Nat.lt_of_le_of_lt Nat.and_le_left ha
  show IntKind.i64.wrap (((BitVec.ofInt 64 (a : Int) &&& BitVec.ofInt 64 (b : Int)).toNat : Nat) : Int) = _
  rw [BitVec.toNat_and, ofInt_nat ha, ofInt_nat hb, wrap_nat h]
theorem iOr_nat {a b : Nat} (ha : a < 9223372036854775808) (hb : b < 9223372036854775808) : iOr .i64 (a : Int) (b : Int) = ((a ||| b : Nat) : Int) := by
  have h : a ||| b < 2 ^ 63 := Nat.or_lt_two_pow (by omega) (by omega)
  show IntKind.i64.wrap (((BitVec.ofInt 64 (a : Int) ||| BitVec.ofInt 64 (b : Int)).toNat : Nat) : Int) = _
  rw [BitVec.toNat_or, ofInt_nat ha, ofInt_nat hb, wrap_nat (show a ||| b < 9223372036854775808 by omega)]
theorem iXor_nat {a b : Nat} (ha : a < 9223372036854775808) (hb : b < 9223372036854775808) : iXor .i64 (a : Int) (b : Int) = ((a ^^^ b : Nat) : Int) := by
  have h : a ^^^ b < 2 ^ 63 := Nat.xor_lt_two_pow (by omega) (by omega)
  show IntKind.i64.wrap (((BitVec.ofInt 64 (a : Int) ^^^ BitVec.ofInt 64 (b : Int)).toNat : Nat) : Int) = _
  rw [BitVec.toNat_xor, ofInt_nat ha, ofInt_nat hb, wrap_nat (show a ^^^ b < 9223372036854775808 by omega)]
theorem not_and {a b : Nat} (ha : a < 2 ^ 64) (hb : b < 2 ^ 64) : a &&& (2 ^ 64 - 1 - b) = nSub a b := by
  apply Nat.eq_of_testBit_eq
  intro i
  have e : 2 ^ 64 - 1 - b = 2 ^ 64 - (b + 1) := by omega
  rw [e, Nat.testBit_and, nSub_bit, Nat.testBit_two_pow_sub_succ hb]
  by_cases hi : i < 64
  · simp [hi]
  · have : a.testBit i = false := Nat.testBit_lt_two_pow (Nat.lt_of_lt_of_le ha (Nat.pow_le_pow_right (by omega) (by omega)))
    simp [this]
theorem iAndNot_nat {a b : Nat} (ha : a < 9223372036854775808) (hb : b < 9223372036854775808) : iAndNot .i64 (a : Int) (b : Int) = ((nSub a b : Nat) : Int) := by
  have h : nSub a b < 2 ^ 63 := nSub_lt (by omega)
  show IntKind.i64.wrap (((BitVec.ofInt 64 (a : Int) &&& ~~~ BitVec.ofInt 64 (b : Int)).toNat : Nat) : Int) = _
  rw [BitVec.toNat_and, BitVec.toNat_not, ofInt_nat ha, ofInt_nat hb]
  rw [not_and (by omega) (by omega), wrap_nat (by omega)]
theorem iShl_nat {a i : Nat} (hi : i ≤ 64) (h : a * 2 ^ i < 9223372036854775808) : iShl .i64 (a : Int) (i : Int) = ((a * 2 ^ i : Nat) : Int) := by
  have e : min (Int.toNat (i : Int)) IntKind.i64.bits = i := by simp [bits64]; omega
  simp only [iShl, e]
  rw [show (a : Int) * 2 ^ i = ((a * 2 ^ i : Nat) : Int) by simp, wrap_nat h]
theorem iShl_one {i : Nat} (h : i < 63) : iShl .i64 1 (i : Int) = ((2 ^ i : Nat) : Int) := by
  have h2 : 1 * 2 ^ i < 9223372036854775808 := by
    have := Nat.pow_lt_pow_right (a := 2) (by omega) h
    omega
  have := iShl_nat (a := 1) (i := i) (by omega) h2
  simpa using this
theorem iShr_nat {a i : Nat} (hi : i ≤ 64) : iShr .i64 (a : Int) (i : Int) = ((a >>> i : Nat) : Int) := by
  have e : min (Int.toNat (i : Int)) IntKind.i64.bits = i := by simp [bits64]; omega
  simp only [iShr, e]
  rw [Int.fdiv_eq_ediv_of_nonneg _ (by exact_mod_cast Nat.zero_le (2 ^ i)), Nat.shiftRight_eq_div_pow]
  simp
/-- The answer of 'x>>i&1', whatever x is. -/
def ibit (x : Int) (i : Nat) : Int := x.fdiv (2 ^ i) % 2
theorem iAnd_one (x : Int) : iAnd .i64 x 1 = x % 2 := by
  have h1 : (BitVec.ofInt 64 1).toNat = 1 := by decide
  show IntKind.i64.wrap (((BitVec.ofInt 64 x &&& BitVec.ofInt 64 1).toNat : Nat) : Int) = _
  rw [BitVec.toNat_and, h1, BitVec.toNat_ofInt, Nat.and_one_is_mod]
  have e : (((x % (2 ^ 64 : Nat)).toNat % 2 : Nat) : Int) = x % 2 := by
    have : (2 ^ 64 : Nat) = 18446744073709551616 := by decide
    rw [this]; omega
  rw [e]
  rw [IntKind.wrap_i64]; omega
theorem iBit (x : Int) {i : Nat} (hi : i ≤ 64) : iAnd .i64 (iShr .i64 x (i : Int)) 1 = ibit x i := by
  have e : min (Int.toNat (i : Int)) IntKind.i64.bits = i := by simp [bits64]; omega
  rw [iAnd_one, ibit]
  simp only [iShr, e]
theorem ibit_nat (a i : Nat) : ibit (a : Int) i = if a.testBit i then 1 else 0 := by
  rw [ibit, Int.fdiv_eq_ediv_of_nonneg _ (by exact_mod_cast Nat.zero_le (2 ^ i)), Nat.testBit_eq_decide_div_mod_eq]
  have : ((a : Int) / 2 ^ i) % 2 = ((a / 2 ^ i % 2 : Nat) : Int) := by simp
  rw [this]
  rcases Nat.mod_two_eq_zero_or_one (a / 2 ^ i) with h | h <;> simp [h]
theorem ibit_01 (x : Int) (i : Nat) : ibit x i = 0 ∨ ibit x i = 1 := by unfold ibit; omega

/-! ## Sets of at most twelve elements -/
def tz (s : Nat) : Nat := ((List.range 12).find? s.testBit).getD 64
def els (s : Nat) : List Nat := (List.range 12).filter s.testBit
def pc (s : Nat) : Nat := (els s).length
theorem mem_els {s i : Nat} : i ∈ els s ↔ i < 12 ∧ s.testBit i = true := by simp [els]
theorem bit_lt {s i n : Nat} (h : s < 2 ^ n) (hb : s.testBit i = true) : i < n := by
  rcases Nat.lt_or_ge i n with h1 | h1
  · exact h1
  · rw [Nat.testBit_lt_two_pow (Nat.lt_of_lt_of_le h (Nat.pow_le_pow_right (by omega) h1))] at hb; cases hb
def stepOk (s : Nat) : Bool := s == 0 || (els s == tz s :: els (s &&& (s - 1)) && decide (s &&& (s - 1) < s) && decide (tz s < 12))
theorem stepAll' : ∀ a, a < 64 → ∀ b, b < 64 → stepOk (a * 64 + b) = true := by decide +kernel
theorem all4096 {p : Nat → Prop} (h : ∀ a, a < 64 → ∀ b, b < 64 → p (a * 64 + b)) (s : Nat) (hs : s < 4096) : p s := by
  have := h (s / 64) (by omega) (s % 64) (by omega)
  rwa [show s / 64 * 64 + s % 64 = s by omega] at this
theorem stepAll : ∀ s, s < 4096 → stepOk s = true := all4096 stepAll'
theorem els_step {s : Nat} (h : s < 4096) (h0 : s ≠ 0) : els s = tz s :: els (s &&& (s - 1)) ∧ s &&& (s - 1) < s ∧ tz s < 12 := by
  have := stepAll s h
  simp only [stepOk, Bool.or_eq_true, beq_iff_eq, h0, false_or, Bool.and_eq_true, decide_eq_true_eq] at this
  exact ⟨this.1.1, this.1.2, this.2⟩
theorem els_zero : els 0 = [] := by decide
theorem set_ext {s t n : Nat} (hs : s < 2 ^ n) (ht : t < 2 ^ n) (h : ∀ i, i < n → s.testBit i = t.testBit i) : s = t := by
  apply Nat.eq_of_testBit_eq
  intro i
  by_cases hi : i < n
  · exact h i hi
  · rw [Nat.testBit_lt_two_pow (Nat.lt_of_lt_of_le hs (Nat.pow_le_pow_right (by omega) (by omega))), Nat.testBit_lt_two_pow (Nat.lt_of_lt_of_le ht (Nat.pow_le_pow_right (by omega) (by omega)))]
theorem set_zero {s : Nat} : s = 0 ↔ ∀ i, s.testBit i = false := by
  constructor
  · rintro rfl i; simp
  · intro h; apply Nat.eq_of_testBit_eq; intro i; simp [h i]
end Go.Proofs.Ytleiddajojgmmaa.VC

/- Records: slices of records (each of some cells), local copies of them, append of one. No condition. -/
namespace Go.Proofs.Ytleiddajojgmmaa.VC
open Go Go.RowKit
set_option linter.unusedSimpArgs false
set_option linter.unusedVariables false

theorem add_add (a : Addr) (i j : Nat) : (a.add i).add j = a.add (i + j) := by
  unfold Addr.add
  split <;> split <;> simp_all <;> omega
theorem Addr.add0 (g j : Nat) : (⟨g, 0, none⟩ : Addr).add j = ⟨g, j, none⟩ := by unfold Addr.add; split <;> simp_all
/-- A slice whose elements have the cells f x. -/
def SlR {α : Type} (f : α → List Value) (w : World) (v : Value) (xs : List α) : Prop := SlC w v xs.length (xs.flatMap f)
section
variable {α : Type} {f : α → List Value}
theorem SlR.grow {w w' : World} {v : Value} {xs : List α} (h : SlR f w v xs) (hf : Grow w w') : SlR f w' v xs := SlC.grow h hf
theorem SlR.dr {w : World} {v : Value} {xs : List α} (h : SlR f w v xs) (m : Nat) : SlR f (dr w m) v xs := SlC.dr h m
theorem SlR.nil (w : World) : SlR f w (.slice none 0 0) [] := SlC.nil w
theorem SlR.one {w : World} {v : Value} {xs : List α} (h : SlR f w v xs) : oneV v := SlC.one h
theorem SlR.len_le {w : World} {v : Value} {xs : List α} (h : SlR f w v xs) : xs.length ≤ 9223372036854775807 := SlC.len_le h
theorem SlR.ln {w : World} {v : Value} {xs : List α} (h : SlR f w v xs) {K : Nat → Prop} (hk : K xs.length) : ∃ (a : Option Addr) (m c : Nat), v = .slice a m c ∧ K m := SlC.ln h hk
theorem flat_len {xs : List α} {k : Nat} (hf : ∀ x, (f x).length = k) : (xs.flatMap f).length = xs.length * k := by
  induction xs with
  | nil => simp
  | cons x r ih => rw [List.flatMap_cons, List.length_append, ih, hf, List.length_cons, Nat.add_mul]; omega
theorem flat_get {xs : List α} {k : Nat} (hf : ∀ x, (f x).length = k) {i j : Nat} (hi : i < xs.length) (hj : j < k) : (xs.flatMap f)[i * k + j]? = (f xs[i])[j]? := by
  induction xs generalizing i with
  | nil => simp at hi
  | cons x r ih =>
    rw [List.flatMap_cons]
    cases i with
    | zero =>
      rw [List.getElem?_append_left (by rw [hf]; omega)]
      simp
    | succ i =>
      have e : (i + 1) * k + j = k + (i * k + j) := by rw [Nat.add_mul]; omega
      rw [e, List.getElem?_append_right (by rw [hf]; omega), hf, show k + (i * k + j) - k = i * k + j by omega, ih (by simpa using hi)]
      simp
/-- An element is read: all its cells. -/
theorem SlR.rd {w : World} {v : Value} {xs : List α} {k : Nat} (h : SlR f w v xs) (hf : ∀ x, (f x).length = k) {i : Nat} {j : Int} (hj : j = (i : Int)) (hi : i < xs.length) {K : List Value → Prop} (hk : K (f xs[i])) :
    ∃ (a : Addr) (m c : Nat), v = .slice (some a) m c ∧ ((0 : Int) ≤ j ∧ j < (m : Int)) ∧ ∃ cs : List Value, cs.length = k ∧ (∀ t u, cs[t]? = some u → w.cell? (Addr.add (a.add (Int.toNat j * k)) t) = some u) ∧ K cs := by
  subst hj
  obtain ⟨a, c, rfl, h1, h2, h3, h4⟩ := h.ex
  have hsome : ∃ b, a = some b := by
    cases a with
    | none =>
      have := h3 rfl; omega
    | some b => exact ⟨b, rfl⟩
  obtain ⟨b, rfl⟩ := hsome
  refine ⟨b, _, c, rfl, ⟨by omega, by omega⟩, f xs[i], hf _, fun t u ht => ?_, hk⟩
  have htk : t < k := by
    have := (List.getElem?_eq_some_iff.1 ht).1
    rwa [hf] at this
  obtain ⟨b', hb, hc⟩ := h4 (i * k + t) u (by rw [flat_get hf hi htk]; exact ht)
  cases hb
  rw [add_add, Int.toNat_natCast]
  exact hc
/-- One cell of an element. -/
theorem SlR.rdc {w : World} {v : Value} {xs : List α} {k : Nat} (h : SlR f w v xs) (hf : ∀ x, (f x).length = k) {i t : Nat} {j : Int} {u : Value} (hj : j = (i : Int)) (hi : i < xs.length) (hu : (f xs[i])[t]? = some u) {K : Addr → Prop} (hk : ∀ p, w.cell? (p.add t) = some u → K p) :
    ∃ (a : Addr) (m c : Nat), v = .slice (some a) m c ∧ ((0 : Int) ≤ j ∧ j < (m : Int)) ∧ K (a.add (Int.toNat j * k)) := by
  obtain ⟨a, m, c, e, hb, cs, hl, hcs, rfl⟩ := h.rd hf hj hi (K := fun cs => cs = f xs[i]) rfl
  exact ⟨a, m, c, e, hb, hk _ (hcs t u hu)⟩
/-- The beginning of a slice of records. -/
theorem SlR.upto {w : World} {v : Value} {xs : List α} {k : Nat} (h : SlR f w v xs) (hf : ∀ x, (f x).length = k) {i : Nat} {ik : IntKind} {z : Int} (hz : z = (i : Int)) (hi : i ≤ xs.length) {K : Value → Prop} (hk : ∀ v', SlR f w v' (xs.take i) → K v') :
    ∃ (a : Option Addr) (n c : Nat), v = .slice a n c ∧ ∃ l hh m : Nat, sbR none (some (.int ik z)) none n c l hh m ∧ K (.slice (if m = l then a else a.map (·.add (l * k))) (hh - l) (m - l)) := by
  subst hz
  obtain ⟨a, c, rfl, h1, h2, h3, h4⟩ := h.ex
  refine ⟨a, _, c, rfl, 0, i, c, ⟨rfl, rfl, rfl, by simp, by omega, by omega, by omega⟩, hk _ ?_⟩
  refine ⟨a, c, ?_, by simp; omega, h2, h3, fun j u hj => ?_⟩
  · have : (xs.take i).length = i := by simp; omega
    rw [this]
    by_cases hc : c = 0
    · simp [hc]
    · rw [if_neg hc]
      cases a <;> simp [Addr.add]
  · refine h4 j u ?_
    have e : xs.flatMap f = (xs.take i).flatMap f ++ (xs.drop i).flatMap f := by rw [← List.flatMap_append, List.take_append_drop]
    have hl := (List.getElem?_eq_some_iff.1 hj).1
    rw [e, List.getElem?_append_left hl]
    exact hj
end
/-! ## Slices of elements that are read by a relation -/
/-- A slice of elements of k cells each; the cells of an element stand in the relation rep to what it reads as. -/
structure SlX {α : Type} (k : Nat) (rep : World → List Value → α → Prop) (w : World) (v : Value) (xs : List α) : Prop where
  ex : ∃ (a : Option Addr) (c : Nat), v = .slice a xs.length c ∧ xs.length ≤ c ∧ c ≤ 9223372036854775807 ∧ (a = none → c = 0) ∧ ∀ i (hi : i < xs.length), ∃ b cs, a = some b ∧ cs.length = k ∧ (∀ t u, cs[t]? = some u → w.cell? (b.add (i * k + t)) = some u) ∧ rep w cs xs[i]
def Mono {α : Type} (rep : World → List Value → α → Prop) : Prop := ∀ w w' cs x, Grow w w' → rep w cs x → rep w' cs x
section
variable {α : Type} {k : Nat} {rep : World → List Value → α → Prop}
theorem SlX.nil (w : World) : SlX k rep w (.slice none 0 0) [] := ⟨none, 0, rfl, by simp, by omega, fun _ => rfl, fun i hi => by simp at hi⟩
theorem SlX.grow (hm : Mono rep) {w w' : World} {v : Value} {xs : List α} (h : SlX k rep w v xs) (hf : Grow w w') : SlX k rep w' v xs := by
  obtain ⟨a, c, e, h1, h2, h3, h4⟩ := h.ex
  refine ⟨a, c, e, h1, h2, h3, fun i hi => ?_⟩
  obtain ⟨b, cs, e1, e2, e3, e4⟩ := h4 i hi
  exact ⟨b, cs, e1, e2, fun t u ht => hf.cell (e3 t u ht), hm _ _ _ _ hf e4⟩
theorem SlX.one {w : World} {v : Value} {xs : List α} (h : SlX k rep w v xs) : oneV v := by
  obtain ⟨a, c, rfl, _⟩ := h.ex; exact ⟨rfl, rfl⟩
theorem SlX.len_le {w : World} {v : Value} {xs : List α} (h : SlX k rep w v xs) : xs.length ≤ 9223372036854775807 := by
  obtain ⟨a, c, rfl, h1, h2, _⟩ := h.ex; omega
theorem SlX.ln {w : World} {v : Value} {xs : List α} (h : SlX k rep w v xs) {K : Nat → Prop} (hk : K xs.length) : ∃ (a : Option Addr) (m c : Nat), v = .slice a m c ∧ K m := by
  obtain ⟨a, c, rfl, _⟩ := h.ex; exact ⟨a, xs.length, c, rfl, hk⟩
/-- An element is read: all its cells. -/
theorem SlX.rd {w : World} {v : Value} {xs : List α} (h : SlX k rep w v xs) {i : Nat} {j : Int} (hj : j = (i : Int)) (hi : i < xs.length) {K : List Value → Prop} (hk : ∀ cs, cs.length = k → rep w cs xs[i] → K cs) :
    ∃ (a : Addr) (m c : Nat), v = .slice (some a) m c ∧ ((0 : Int) ≤ j ∧ j < (m : Int)) ∧ ∃ cs : List Value, cs.length = k ∧ (∀ t u, cs[t]? = some u → w.cell? (Addr.add (a.add (Int.toNat j * k)) t) = some u) ∧ K cs := by
  subst hj
  obtain ⟨a, c, rfl, h1, h2, h3, h4⟩ := h.ex
  obtain ⟨b, cs, rfl, e2, e3, e4⟩ := h4 i hi
  refine ⟨b, _, c, rfl, ⟨by omega, by omega⟩, cs, e2, fun t u ht => ?_, hk cs e2 e4⟩
  rw [add_add, Int.toNat_natCast]
  exact e3 t u ht
/-- The place of an element. -/
theorem SlX.at {w : World} {v : Value} {xs : List α} (h : SlX k rep w v xs) {i : Nat} {j : Int} (hj : j = (i : Int)) (hi : i < xs.length) {K : Addr → Prop} (hk : ∀ p cs, cs.length = k → (∀ t u, cs[t]? = some u → w.cell? (p.add t) = some u) → rep w cs xs[i] → K p) :
    ∃ (a : Addr) (m c : Nat), v = .slice (some a) m c ∧ ((0 : Int) ≤ j ∧ j < (m : Int)) ∧ K (a.add (Int.toNat j * k)) := by
  subst hj
  obtain ⟨a, c, rfl, h1, h2, h3, h4⟩ := h.ex
  obtain ⟨b, cs, rfl, e2, e3, e4⟩ := h4 i hi
  refine ⟨b, _, c, rfl, ⟨by omega, by omega⟩, hk _ cs e2 (fun t u ht => ?_) e4⟩
  rw [add_add, Int.toNat_natCast]
  exact e3 t u ht
theorem SlX.slR {f : α → List Value} (hf : ∀ x, (f x).length = k) {w : World} {v : Value} {xs : List α} (h : SlX k (fun _ cs x => cs = f x) w v xs) : SlR f w v xs := by
  obtain ⟨a, c, rfl, h1, h2, h3, h4⟩ := h.ex
  refine ⟨a, c, rfl, h1, h2, h3, fun j u hj => ?_⟩
  have hlt := (List.getElem?_eq_some_iff.1 hj).1
  rw [flat_len hf] at hlt
  have hk : 0 < k := Nat.pos_of_ne_zero fun e => by subst e; simp at hlt
  have hi : j / k < xs.length := Nat.div_lt_of_lt_mul (by rw [Nat.mul_comm]; exact hlt)
  have ht := Nat.mod_lt j hk
  have e : j / k * k + j % k = j := by rw [Nat.mul_comm]; exact Nat.div_add_mod j k
  obtain ⟨b, cs, rfl, e2, e3, rfl⟩ := h4 (j / k) hi
  rw [← e, flat_get hf hi ht] at hj
  have := e3 (j % k) u hj
  rw [e] at this
  exact ⟨b, rfl, this⟩
end
def spF (p : Int × Int) : List Value := [.int .i64 p.1, .int .i64 p.2]
theorem spF_len (p : Int × Int) : (spF p).length = 2 := rfl
theorem spF_one (p : Int × Int) : ∀ u ∈ spF p, u.oneCell' = true := by
  intro u hu
  simp [spF] at hu
  rcases hu with rfl | rfl <;> rfl
def opF (o : Int × Int × Int) : List Value := [.int .i64 o.1, .int .i64 o.2.1, .int .i64 o.2.2]
theorem opF_len (o : Int × Int × Int) : (opF o).length = 3 := rfl
theorem opF_one (o : Int × Int × Int) : ∀ u ∈ opF o, u.oneCell' = true := by
  intro u hu
  simp [opF] at hu
  rcases hu with rfl | rfl | rfl <;> rfl
/-! ## Local records -/
theorem store_row {P : Program} {w : World} {g : Nat} {cur cs : Array Value} {t : TypeId} (hg : w.heap[g]? = some (.cells cur t (0, 0))) (hl : cs.size = cur.size) (h1 : ∀ v ∈ cs.toList, v.oneCell' = true) :
    ∃ w', (storeCells ⟨g, 0, none⟩ cs.toList).run P w = .ok () w' ∧ Fr (fun k => k = g) w w' ∧ w'.heap[g]? = some (.cells cs t (0, 0)) := by
  have hr := run_storeCells_at P g 0 t cs.toList 0 cur w hg (by simp; omega) h1
  have e : (cur.toList.take (0 + 0) ++ cs.toList ++ cur.toList.drop (0 + 0 + cs.toList.length)).toArray = cs := by
    apply Array.ext'
    have : cur.toList.drop (0 + 0 + cs.toList.length) = [] := List.drop_eq_nil_of_le (by simp; omega)
    rw [this]
    simp
  rw [e] at hr
  refine ⟨_, hr, ⟨rfl, rfl, rfl, by simp [World.setRow], fun k _ hk => setRow_other w g k cs hk⟩, setRow_heap w g cur cs t (0, 0) hg⟩
theorem row_cells {w : World} {g : Nat} {cs : Array Value} {t : TypeId} (hg : w.heap[g]? = some (.cells cs t (0, 0))) : ∀ (j : Nat) (v : Value), cs.toList[j]? = some v → w.cell? (Addr.add ⟨g, 0, none⟩ j) = some v := fun j v hj => by
  rw [Addr.add0, cell_of_row w g j cs t (0, 0) hg]
  simpa using hj
theorem grow_row {w w' : World} (h : Grow w w') {g : Nat} {o : Obj} (hg : w.heap[g]? = some o) : w'.heap[g]? = some o := (h.block g (Array.getElem?_eq_some_iff.1 hg).1).trans hg
/-- A record laid on the heap as a variable, and set. -/
theorem setR {P : Program} {w w1 : World} {zs : Array Value} {cs : List Value} {t : TypeId} (hw : w1 = w.alloc (.cells zs t)) (hl : cs.length = zs.size) (h1 : ∀ v ∈ cs, v.oneCell' = true) {K : World → Prop}
    (hk : ∀ w2, Grow w w2 → w.heap.size < w2.heap.size → (∀ j u, cs[j]? = some u → w2.cell? (Addr.add ⟨w.heap.size, 0, none⟩ j) = some u) → K w2) :
    ∃ cs' : Array Value, (Value.agg cs.toArray) = Value.agg cs' ∧ cs'.size = zs.size ∧ ∃ w2 : World, (storeCells ⟨w.heap.size, 0, none⟩ cs'.toList).run P w1 = .ok () w2 ∧ K w2 := by
  have hrow : w1.heap[w.heap.size]? = some (.cells zs t (0, 0)) := by subst hw; exact heap_alloc_new w _
  obtain ⟨w2, hr, hf, hrow2⟩ := store_row (P := P) (cs := cs.toArray) hrow (by simpa using hl) (by simpa using h1)
  refine ⟨_, rfl, by simpa using hl, w2, hr, hk w2 ((alloc_grow hw).fr hf fun i hi e => by omega) ?_ fun j u hj => row_cells hrow2 j u (by simpa using hj)⟩
  have := hf.size
  have := alloc_size hw
  omega
/-! ## append of one record -/
theorem fold_zip {off : Nat} : ∀ (l : List Value) (k : Nat) (A : Array Value), off + k + l.length ≤ A.size → ∀ j, ((l.zipIdx k).foldl (fun (cs : Array Value) (p : Value × Nat) => cs.setIfInBounds (off + p.2) p.1) A)[j]? = if off + k ≤ j ∧ j < off + k + l.length then l[j - (off + k)]? else A[j]?
  | [], k, A, h, j => by
    simp
    intro h1 h2
    omega
  | v :: l, k, A, h, j => by
    simp only [List.length_cons] at h
    rw [List.zipIdx_cons, List.foldl_cons, fold_zip l (k + 1) _ (by simp; omega) j]
    simp only [List.length_cons]
    by_cases h1 : off + (k + 1) ≤ j ∧ j < off + (k + 1) + l.length
    · rw [if_pos h1, if_pos (by omega), show j - (off + k) = (j - (off + (k + 1))) + 1 by omega, List.getElem?_cons_succ]
    · rw [if_neg h1]
      by_cases h2 : j = off + k
      · subst h2
        rw [if_pos (by omega)]
        simp [Array.getElem?_setIfInBounds]
        omega
      · rw [if_neg (by omega), Array.getElem?_setIfInBounds_ne (by omega)]
theorem fill_one {size : Nat} {A cs : Array Value} (h1 : cs.size = size) (h2 : A.size = size) : Instr.fill (fun i => some (i * size, size)) A [(0, .agg cs)] = some cs := by
  have hc : (Value.agg cs).cells = cs := rfl
  simp only [Instr.fill, hc]
  rw [if_neg (by simp; omega)]
  congr 1
  apply Array.ext_getElem?
  intro j
  have := fold_zip (off := 0 * size) cs.toList 0 A (by simp; omega) j
  rw [← Array.foldl_toList, Array.toList_zipIdx]
  refine Eq.trans ?_ (this.trans ?_)
  · rfl
  · simp only [Nat.zero_mul, Nat.zero_add, Array.length_toList, Nat.sub_zero]
    by_cases hj : j < cs.size
    · rw [if_pos (by omega)]; simp
    · rw [if_neg (by omega)]
      simp [Array.getElem?_eq_none (Nat.le_of_not_lt hj), show A.size ≤ j by omega]
/-- A slice literal of one record. -/
theorem bs1 {P : Program} {t e : TypeId} {sz bytes : Nat} {z : Value} (hT : ElT P t e sz bytes z) (hsz : 0 < sz) (hsz2 : sz ≤ 16777216) {cs : Array Value} (hcs : cs.size = sz) (w : World) {K : Value → World → Prop}
    (hk : ∀ w', w' = w.alloc (.cells cs e) → K (.slice (some ⟨w.heap.size, 0, none⟩) 1 1) w') : ∃ v : Value, ∃ w' : World, (Instr.buildSlice t 1 #[(0, .agg cs)]).run P w = .ok v w' ∧ K v w' := by
  obtain ⟨i, hi, hz, hsize, hby⟩ := hT.info
  refine ⟨_, _, ?_, hk _ rfl⟩
  have hs : (sizeOf e).run P w = .ok sz w := by simp [sizeOf, typeInfo, hi, hsize]
  have hzr : (zeroValue e).run P w = .ok z w := by simp [zeroValue, typeInfo, hi, hz]
  simp only [Instr.buildSlice, Sem.run_bind, underlying_run hT.und, Result.andThen_ok, hs, Nat.one_mul]
  rw [if_neg (by omega), if_neg (by omega)]
  have hf := fill_one (size := sz) (A := (Array.range sz).map fun j => z.cells[j % z.cells.size]!) hcs (by simp)
  simp only [Sem.run_bind, hzr, Result.andThen_ok, Sem.run_pure, hf, newRow, run_newObj]
  rfl
/-- append of one record. -/
theorem pappR {α : Type} {f : α → List Value} {P : Program} {t ty e : TypeId} {sz bytes : Nat} {z : Value} (hT : ElT P t e sz bytes z) (hsz : 0 < sz) (hf : ∀ x, (f x).length = sz) (h1 : ∀ x, ∀ u ∈ f x, u.oneCell' = true) {w w1 : World} {B : Nat} {v : Value} {x : α} {xs : List α}
    (hw : w1 = w.alloc (.cells (f x).toArray e)) (hown : Own w B e sz v xs.length (xs.flatMap f)) (hB : B ≤ w.heap.size) (hlen : (xs.length + 1) * bytes ≤ 140737488355328) (hb : 0 < bytes) {K : Value → World → Prop}
    (hk : ∀ v' w', Own w' B e sz v' (xs ++ [x]).length ((xs ++ [x]).flatMap f) → Fr (fun k => some k = v.ownBlock) w1 w' → K v' w') : PApp P t ty v (.slice (some ⟨w.heap.size, 0, none⟩) 1 1) w1 K := by
  have hl := Own.lit (B := w.heap.size) (n := 1) (sz := sz) hw (Nat.le_refl _) (by omega) (by simp [hf])
  refine papp hT hsz (hown.grow (alloc_grow hw)) hl.slC (by simp [hf]) (by simpa using h1 x) (by rw [alloc_size hw]; omega) hlen hb ?_
  intro v' w' ho hfr _
  refine hk v' w' ?_ hfr
  have e1 : (xs ++ [x]).length = xs.length + 1 := by simp
  have e2 : (xs ++ [x]).flatMap f = xs.flatMap f ++ (f x).toArray.toList := by simp
  rw [e1, e2]
  exact ho
theorem Own.slR {α : Type} {f : α → List Value} {w : World} {B : Nat} {e : TypeId} {sz : Nat} {v : Value} {xs : List α} (h : Own w B e sz v xs.length (xs.flatMap f)) : SlR f w v xs := h.slC
end Go.Proofs.Ytleiddajojgmmaa.VC

/- Slices of the call's own whose elements are read by a relation: append, reading, what stays. No condition. -/
namespace Go.Proofs.Ytleiddajojgmmaa.VC
open Go Go.RowKit
set_option linter.unusedSimpArgs false
set_option linter.unusedVariables false

/-- append onto a slice of the call's own; where the result's array lies. -/
theorem pappk {P : Program} {t ty e : TypeId} {sz bytes : Nat} {z : Value} (hT : ElT P t e sz bytes z) (hsz : 0 < sz) {w : World} {B : Nat} {v x : Value} {n m : Nat} {xs news : List Value} (hown : Own w B e sz v n xs) (hx : SlC w x m news) (hm : news.length = m * sz) (h1 : ∀ u ∈ news, u.oneCell' = true)
    (hB : B ≤ w.heap.size) (hlen : (n + m) * bytes ≤ 140737488355328) (hb : 0 < bytes) {K : Value → World → Prop}
    (hk : ∀ v' w', Own w' B e sz v' (n + m) (xs ++ news) → Fr (fun k => some k = v.ownBlock) w w' → (v' = .slice none 0 0 → n + m = 0) → (∀ k, v'.ownBlock = some k → some k = v.ownBlock ∨ w.heap.size ≤ k) → K v' w') : PApp P t ty v x w K := by
  obtain ⟨i, hi, hz, hsize, hby⟩ := hT.info
  obtain ⟨a, c, rfl, hmc, hc, hnone, hcells⟩ := hx.ex
  cases a with
  | none =>
    have hc0 := hnone rfl
    subst hc0
    have hm0 : m = 0 := by omega
    subst hm0
    have hnews : news = [] := by simpa using hm
    subst hnews
    refine ⟨v, w, run_append_owned_none (P := P) w B t ty e i sz hT.und hi v n xs hown, hk _ _ (by simpa using hown) (Fr.refl _ _) ?_ (fun k hk => .inl hk.symm)⟩
    intro hv
    rcases hown.2 with ⟨_, h0⟩ | ⟨g, cap, cur, rfl, _⟩
    · simpa using h0
    · cases hv
  | some a =>
    have hnm : n + m ≤ maxLen := by
      simp only [maxLen]
      have : n + m ≤ (n + m) * bytes := Nat.le_mul_of_pos_right _ hb
      omega
    have hnews : ∀ j u, news[j]? = some u → w.cell? (a.add j) = some u := fun j u hj => by obtain ⟨b, hb', hcc⟩ := hcells j u hj; cases hb'; exact hcc
    obtain ⟨v', w', hr, ho, hg, hnil⟩ := run_append_own (P := P) w B t ty e i z sz bytes hT.und hi hz hsize hby hT.zs hsz v n xs hown a m c news hm hnews h1 hnm hlen hB
    refine ⟨v', w', hr, hk v' w' ho (Fr.of_grown hg) ?_ ?_⟩
    · intro hv
      have h2 := hnil.1 hv
      have hn0 : n = 0 := by
        rcases hown.2 with ⟨_, h0⟩ | ⟨g, cap, cur, rfl, _⟩
        · exact h0
        · cases h2.1
      omega
    · rcases hown.2 with ⟨rfl, rfl⟩ | ⟨g, cap, cur, rfl, hbg, hgg, hnc, hcm, hcs, htake⟩
      · have ho2 := run_append_own (P := P) w w.heap.size t ty e i z sz bytes hT.und hi hz hsize hby hT.zs hsz (.slice none 0 0) 0 xs ⟨hown.1, .inl ⟨rfl, rfl⟩⟩ a m c news hm hnews h1 hnm hlen (Nat.le_refl _)
        obtain ⟨v2, w2, hr2, ho2, _⟩ := ho2
        rw [hr] at hr2
        simp only [Result.ok.injEq] at hr2
        obtain ⟨rfl, rfl⟩ := hr2
        exact fun k hk => .inr (Own.lt ho2 hk).1
      · by_cases hroom : n + m ≤ cap
        · have hfit : n * i.size + news.length ≤ cur.size := by rw [hm, hsize, hcs, ← Nat.add_mul]; exact Nat.mul_le_mul_right _ hroom
          have hr2 := run_append_room (P := P) w t ty e i hT.und hi g n cap cur hgg a m c news (by rw [hsize]; exact hm) hnews h1 hroom hfit
          rw [hr] at hr2
          simp only [Result.ok.injEq] at hr2
          obtain ⟨rfl, rfl⟩ := hr2
          exact fun k hk => .inl hk.symm
        · have holds : ∀ j y, xs[j]? = some y → w.cell? ((⟨g, 0, none⟩ : Addr).add j) = some y := World.ownsRow.cells (g := g) hown rfl
          have hr2 := run_append_grow (P := P) w t ty e i z hT.und hi hz ⟨g, 0, none⟩ n cap xs (by rw [hsize]; exact hown.1) holds a m c news (by rw [hsize]; exact hm) hnews (by omega) (by simp only [maxLen] at hnm; omega) (growslice_fits (by omega) (by rw [hby]; exact hlen))
          rw [hr] at hr2
          simp only [Result.ok.injEq] at hr2
          obtain ⟨rfl, rfl⟩ := hr2
          exact fun k hk => .inr (by simp [Value.ownBlock] at hk; omega)

theorem flat_len' {α : Type} {f : α → List Value} {k : Nat} {xs : List α} (hf : ∀ x ∈ xs, (f x).length = k) : (xs.flatMap f).length = xs.length * k := by
  induction xs with
  | nil => simp
  | cons x r ih => rw [List.flatMap_cons, List.length_append, ih fun y hy => hf y (List.mem_cons_of_mem _ hy), hf x (List.mem_cons_self ..), List.length_cons, Nat.add_mul]; omega
theorem flat_get' {α : Type} {f : α → List Value} {k : Nat} {xs : List α} (hf : ∀ x ∈ xs, (f x).length = k) {i j : Nat} (hi : i < xs.length) (hj : j < k) : (xs.flatMap f)[i * k + j]? = (f xs[i])[j]? := by
  induction xs generalizing i with
  | nil => simp at hi
  | cons x r ih =>
    have hx := hf x (List.mem_cons_self ..)
    have hr : ∀ y ∈ r, (f y).length = k := fun y hy => hf y (List.mem_cons_of_mem _ hy)
    rw [List.flatMap_cons]
    cases i with
    | zero =>
      rw [List.getElem?_append_left (by rw [hx]; omega)]
      simp
    | succ i =>
      have e : (i + 1) * k + j = k + (i * k + j) := by rw [Nat.add_mul]; omega
      rw [e, List.getElem?_append_right (by rw [hx]; omega), hx, show k + (i * k + j) - k = i * k + j by omega, ih hr (by simpa using hi)]
      simp

/-- The blocks of T, and v's own, may have turned. -/
abbrev FrT (T : Nat → Prop) (v : Value) (w w' : World) : Prop := Fr (fun k => T k ∨ some k = v.ownBlock) w w'
abbrev FrO (v : Value) (w w' : World) : Prop := Fr (fun k => some k = v.ownBlock) w w'
/-- An element: its cells, and that they read as x as long as no block but those of T and v's own turns. -/
structure ElX {α : Type} (T : Nat → Prop) (k : Nat) (rep : World → List Value → α → Prop) (v : Value) (w : World) (p : List Value × α) : Prop where
  len : p.1.length = k
  one : ∀ u ∈ p.1, u.oneCell' = true
  rep : ∀ w', FrT T v w w' → rep w' p.1 p.2
/-- A slice of the call's own, whose elements of k cells are read by rep. -/
structure OwnX {α : Type} (T : Nat → Prop) (k : Nat) (rep : World → List Value → α → Prop) (w : World) (B : Nat) (e : TypeId) (v : Value) (xs : List α) : Prop where
  ex : ∃ ps : List (List Value × α), ps.map Prod.snd = xs ∧ (∀ p ∈ ps, ElX T k rep v w p) ∧ Own w B e k v xs.length (ps.flatMap Prod.fst)
section
variable {α : Type} {T : Nat → Prop} {k : Nat} {rep : World → List Value → α → Prop} {w w' : World} {B : Nat} {e : TypeId} {v : Value} {xs : List α}
theorem ElX.later {p : List Value × α} (h : ElX T k rep v w p) (hf : FrT T v w w') : ElX T k rep v w' p := ⟨h.len, h.one, fun w2 h2 => h.rep w2 (hf.trans h2)⟩
theorem ElX.grow {p : List Value × α} (h : ElX T k rep v w p) (hf : Grow w w') : ElX T k rep v w' p := h.later (Fr.of_grow hf)
theorem OwnX.nil (w : World) (B : Nat) (e : TypeId) : OwnX T k rep w B e (.slice none 0 0) [] := ⟨[], rfl, by simp, Own.nil _ _ _ _⟩
theorem OwnX.grow (h : OwnX T k rep w B e v xs) (hf : Grow w w') : OwnX T k rep w' B e v xs := by
  obtain ⟨ps, h1, h2, h3⟩ := h.ex
  exact ⟨ps, h1, fun p hp => (h2 p hp).grow hf, Own.grow h3 hf⟩
theorem OwnX.fr {S : Nat → Prop} (h : OwnX T k rep w B e v xs) (hf : Fr S w w') (hS : ∀ b, S b → T b) (ho : ∀ b, v.ownBlock = some b → ¬ S b) : OwnX T k rep w' B e v xs := by
  obtain ⟨ps, h1, h2, h3⟩ := h.ex
  exact ⟨ps, h1, fun p hp => (h2 p hp).later (hf.mono fun b _ hb => .inl (hS b hb)), Own.fr h3 hf ho⟩
theorem OwnX.weaken {T' : Nat → Prop} (h : OwnX T k rep w B e v xs) (hT : ∀ b, T' b → T b) : OwnX T' k rep w B e v xs := by
  obtain ⟨ps, h1, h2, h3⟩ := h.ex
  exact ⟨ps, h1, fun p hp => ⟨(h2 p hp).len, (h2 p hp).one, fun w2 hf => (h2 p hp).rep w2 (hf.mono fun b _ hb => hb.imp (hT b) id)⟩, h3⟩
theorem OwnX.dr (h : OwnX T k rep w B e v xs) (m : Nat) : OwnX T k rep (dr w m) B e v xs := h.grow ((Grow.refl w).dr m)
theorem OwnX.base (h : OwnX T k rep w B e v xs) {B' : Nat} (hB : B' ≤ B) : OwnX T k rep w B' e v xs := by
  obtain ⟨ps, h1, h2, h3⟩ := h.ex
  exact ⟨ps, h1, h2, Own.mono h3 hB⟩
theorem OwnX.lt (h : OwnX T k rep w B e v xs) {b : Nat} (hb : v.ownBlock = some b) : B ≤ b ∧ b < w.heap.size := by
  obtain ⟨ps, h1, h2, h3⟩ := h.ex
  exact Own.lt h3 hb
theorem OwnX.one (h : OwnX T k rep w B e v xs) : oneV v := by
  obtain ⟨ps, h1, h2, h3⟩ := h.ex
  exact Own.one h3
theorem SlX.of_cells {ps : List (List Value × α)} (hk : ∀ p ∈ ps, p.1.length = k ∧ rep w p.1 p.2) (hs : SlC w v ps.length (ps.flatMap Prod.fst)) : SlX k rep w v (ps.map Prod.snd) := by
  obtain ⟨a, c, rfl, h1, h2, h3, h4⟩ := hs.ex
  refine ⟨a, c, by simp, by simpa using h1, h2, h3, fun i hi => ?_⟩
  have hi' : i < ps.length := by simpa using hi
  have hp := hk _ (List.getElem_mem hi')
  have hb : ∃ b, a = some b := by
    cases a with
    | none => have := h3 rfl; omega
    | some b => exact ⟨b, rfl⟩
  obtain ⟨b, rfl⟩ := hb
  refine ⟨b, ps[i].1, rfl, hp.1, fun t u ht => ?_, by simpa using hp.2⟩
  have htk : t < k := by
    have := (List.getElem?_eq_some_iff.1 ht).1
    omega
  obtain ⟨b', hb, hc⟩ := h4 (i * k + t) u (by rw [flat_get' (fun p hp => (hk p hp).1) hi' htk]; exact ht)
  cases hb
  exact hc
theorem OwnX.slX (h : OwnX T k rep w B e v xs) : SlX k rep w v xs := by
  obtain ⟨ps, rfl, h2, h3⟩ := h.ex
  have := h3.slC
  rw [List.length_map] at this
  exact SlX.of_cells (fun p hp => ⟨(h2 p hp).len, (h2 p hp).rep w (Fr.refl _ _)⟩) this
theorem OwnX.ln (h : OwnX T k rep w B e v xs) {K : Nat → Prop} (hk : K xs.length) : ∃ (a : Option Addr) (m c : Nat), v = .slice a m c ∧ K m := h.slX.ln hk
/-- append of elements that a slice holds. -/
theorem pappX {P : Program} {t ty : TypeId} {bytes : Nat} {z : Value} (hT : ElT P t e k bytes z) (hsz : 0 < k) {x : Value} {qs : List (List Value × α)} (hown : OwnX T k rep w B e v xs) (hx : SlC w x qs.length (qs.flatMap Prod.fst)) (hq : ∀ q ∈ qs, ElX T k rep v w q)
    (hB : B ≤ w.heap.size) (hlen : (xs.length + qs.length) * bytes ≤ 140737488355328) (hb : 0 < bytes) {K : Value → World → Prop}
    (hk : ∀ v' w', OwnX T k rep w' B e v' (xs ++ qs.map Prod.snd) → FrO v w w' → (v' = .slice none 0 0 → xs.length + qs.length = 0) → (∀ b, v'.ownBlock = some b → some b = v.ownBlock ∨ w.heap.size ≤ b) → K v' w') : PApp P t ty v x w K := by
  obtain ⟨ps, h1, h2, h3⟩ := hown.ex
  refine pappk hT hsz h3 hx (flat_len' fun q hq' => (hq q hq').len) (fun u hu => ?_) hB hlen hb ?_
  · obtain ⟨q, hq', hu⟩ := List.mem_flatMap.1 hu
    exact (hq q hq').one u hu
  · intro v' w' ho hf hn hblk
    refine hk v' w' ⟨ps ++ qs, by rw [List.map_append, h1], fun p hp => ?_, ?_⟩ hf hn hblk
    · have hp : ElX T k rep v w p := by
        rcases List.mem_append.1 hp with hp | hp
        · exact h2 p hp
        · exact hq p hp
      refine ⟨hp.len, hp.one, fun w2 h4 => hp.rep w2 ?_⟩
      have h5 : Fr (fun j => w.heap.size ≤ j ∨ T j ∨ some j = v.ownBlock) w' w2 := h4.mono fun j _ hj => by
        rcases hj with hj | hj
        · exact .inr (.inl hj)
        · rcases hblk j hj.symm with h | h
          · exact .inr (.inr h)
          · exact .inl h
      exact Fr.mono ((hf.mono fun j _ hj => .inr (.inr hj)).trans h5) fun j hj h => by
        rcases h with h | h
        · omega
        · exact h
    · rw [List.flatMap_append, List.length_append, List.length_map]
      exact ho
/-- append of one element, out of a literal of one. -/
theorem pappX1 {P : Program} {t ty : TypeId} {bytes : Nat} {z : Value} (hT : ElT P t e k bytes z) (hsz : 0 < k) {cs : List Value} {y : α} (hown : OwnX T k rep w B e v xs) {w1 : World} (hw : w1 = w.alloc (.cells cs.toArray e)) (hy : ElX T k rep v w (cs, y))
    (hB : B ≤ w.heap.size) (hlen : (xs.length + 1) * bytes ≤ 140737488355328) (hb : 0 < bytes) {K : Value → World → Prop}
    (hk : ∀ v' w', OwnX T k rep w' B e v' (xs ++ [y]) → FrO v w1 w' → v' ≠ .slice none 0 0 → (∀ b, v'.ownBlock = some b → some b = v.ownBlock ∨ w.heap.size ≤ b) → K v' w') : PApp P t ty v (.slice (some ⟨w.heap.size, 0, none⟩) 1 1) w1 K := by
  have hl := Own.lit (B := w.heap.size) (n := 1) (sz := k) hw (Nat.le_refl _) (by omega) (by simpa using hy.len)
  have hg := alloc_grow hw
  have hs := alloc_size hw
  refine pappX (qs := [(cs, y)]) hT hsz (hown.grow hg) (by simpa using hl.slC) (fun q hq => ?_) (by omega) hlen hb ?_
  · have : q = (cs, y) := by simpa using hq
    subst this
    exact hy.grow hg
  · intro v' w' ho hf hn hblk
    refine hk v' w' (by simpa using ho) hf (fun e => ?_) fun b hb => ?_
    · have := hn e; simp at this
    · rcases hblk b hb with h | h
      · exact .inl h
      · exact .inr (by omega)
end
end Go.Proofs.Ytleiddajojgmmaa.VC
