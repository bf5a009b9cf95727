/- Memory: slices that read as lists, memory of the call's own, what a step keeps. Lemmas in the form of the printed conditions. No condition. -/
import Derived.Test.YtleiddajojgmmaaDoorVf
import Derived.Laws.OwnMore
import Derived.Laws.AppendOwn
import Derived.Lib.SliceRun
import Derived.Laws.MakeOwn
import Derived.Test.YtleiddajojgmmaaDoorGs
namespace Go.Proofs.YtleiddajojgmmaaDoor.VC
open Go Go.RowKit
set_option linter.unusedSimpArgs false
set_option linter.unusedVariables false

/-- Of what was there nothing has turned but blocks of S. -/
structure Fr (S : Nat → Prop) (w w' : World) : Prop where
  os : w'.os = w.os
  tape : w'.tape = w.tape
  output : w'.output = w.output
  size : w.heap.size ≤ w'.heap.size
  block : ∀ k, k < w.heap.size → ¬ S k → w'.heap[k]? = w.heap[k]?
theorem Fr.refl (S : Nat → Prop) (w : World) : Fr S w w := ⟨rfl, rfl, rfl, Nat.le_refl _, fun _ _ _ => rfl⟩
theorem Fr.trans {S : Nat → Prop} {a b c : World} (h : Fr S a b) (k : Fr S b c) : Fr S a c :=
  ⟨k.os.trans h.os, k.tape.trans h.tape, k.output.trans h.output, Nat.le_trans h.size k.size, fun i hi hs => (k.block i (by have := h.size; omega) hs).trans (h.block i hi hs)⟩
theorem Fr.mono {S S' : Nat → Prop} {a b : World} (h : Fr S a b) (hs : ∀ k, k < a.heap.size → S k → S' k) : Fr S' a b :=
  ⟨h.os, h.tape, h.output, h.size, fun i hi hn => h.block i hi fun hk => hn (hs i hi hk)⟩
theorem Fr.of_grow {S : Nat → Prop} {a b : World} (h : Grow a b) : Fr S a b := ⟨h.os, h.tape, h.output, h.size, fun i hi _ => h.block i hi⟩
/-- What only turned blocks that were not there at first: nothing of the first world has turned. -/
theorem Grow.fr {S : Nat → Prop} {a b c : World} (h : Grow a b) (k : Fr S b c) (hs : ∀ i, i < a.heap.size → ¬ S i) : Grow a c :=
  ⟨k.os.trans h.os, k.tape.trans h.tape, k.output.trans h.output, Nat.le_trans h.size k.size, fun i hi => (k.block i (by have := h.size; omega) (hs i hi)).trans (h.block i hi)⟩
theorem Fr.of_grown {w w' : World} {r : Option Nat} (h : w.grownBy w' r) : Fr (fun k => some k = r) w w' := ⟨h.os, h.tape, h.output, h.size, h.block⟩
theorem Fr.cell {S : Nat → Prop} {w w' : World} (h : Fr S w w') {a : Addr} {v : Value} (hc : w.cell? a = some v) (hs : ¬ S a.block) : w'.cell? a = some v :=
  (World.cell?_of_block (h.block a.block (World.block_lt_of_cell? w a hc) hs)).trans hc
theorem Fr.frozen {S : Nat → Prop} {w w' : World} (h : Fr S w w') {a : Addr} (hlt : a.block < w.heap.size) (hs : ¬ S a.block) : w'.frozen? a = w.frozen? a :=
  World.frozen?_of_block (h.block a.block hlt hs)
theorem grow_frozen {w w' : World} (h : Grow w w') {a : Addr} (hlt : a.block < w.heap.size) : w'.frozen? a = w.frozen? a :=
  World.frozen?_of_block (h.block a.block hlt)

/-- What a new block is good for. -/
theorem alloc_grow {w w' : World} {o : Obj} (h : w' = w.alloc o) : Grow w w' := by subst h; exact (Grow.refl w).alloc o
theorem alloc_size {w w' : World} {o : Obj} (h : w' = w.alloc o) : w'.heap.size = w.heap.size + 1 := by subst h; simp
theorem alloc_cell {w w' : World} {cs : Array Value} {e : TypeId} (h : w' = w.alloc (.cells cs e)) (j : Nat) : w'.cell? ⟨w.heap.size, j, none⟩ = cs[j]? := by subst h; simp
theorem alloc_cell0 {w w' : World} {v : Value} {e : TypeId} (h : w' = w.alloc (.cells #[v] e)) : w'.cell? ⟨w.heap.size, 0, none⟩ = some v := by subst h; simp
theorem alloc_free {w w' : World} {cs : Array Value} {e : TypeId} (h : w' = w.alloc (.cells cs e)) (j : Nat) : w'.frozen? ⟨w.heap.size, j, none⟩ = false := by subst h; simp

/-- A box of one cell that may be written. -/
structure Box (w : World) (b : Nat) (v : Value) : Prop where
  cell : w.cell? ⟨b, 0, none⟩ = some v
  free : w.frozen? ⟨b, 0, none⟩ = false
theorem Box.lt {w : World} {b : Nat} {v : Value} (h : Box w b v) : b < w.heap.size := World.block_lt_of_cell? w _ h.cell
theorem Box.new {w w' : World} {v : Value} {e : TypeId} (h : w' = w.alloc (.cells #[v] e)) : Box w' w.heap.size v := ⟨alloc_cell0 h, alloc_free h 0⟩
theorem Box.fr {S : Nat → Prop} {w w' : World} {b : Nat} {v : Value} (h : Box w b v) (hf : Fr S w w') (hs : ¬ S b) : Box w' b v :=
  ⟨hf.cell h.cell hs, (hf.frozen (a := ⟨b, 0, none⟩) h.lt hs).trans h.free⟩
theorem Box.grow {w w' : World} {b : Nat} {v : Value} (h : Box w b v) (hf : Grow w w') : Box w' b v := h.fr (Fr.of_grow (S := fun _ => False) hf) id
theorem Box.set {w w' : World} {b : Nat} {v x : Value} (h : Box w b v) (hw : w' = w.setCell ⟨b, 0, none⟩ x) : Box w' b x := by
  subst hw
  exact ⟨World.cell?_setCell_same w _ _ h.cell, by simp [h.free]⟩
theorem set_fr {w w' : World} {a : Addr} {x : Value} (hw : w' = w.setCell a x) : Fr (fun k => k = a.block) w w' := by
  subst hw
  exact ⟨rfl, rfl, rfl, by simp, fun k _ hk => Below.heap_setCell _ _ _ _ hk⟩

/-! ## Slices -/
/-- A slice of n elements whose cells read as cs. -/
structure SlC (w : World) (v : Value) (n : Nat) (cs : List Value) : Prop where
  ex : ∃ (a : Option Addr) (c : Nat), v = .slice a n c ∧ n ≤ c ∧ c ≤ 9223372036854775807 ∧ (a = none → c = 0) ∧ ∀ j u, cs[j]? = some u → ∃ b, a = some b ∧ w.cell? (b.add j) = some u
theorem SlC.fr {S : Nat → Prop} {w w' : World} {v : Value} {n : Nat} {cs : List Value} (h : SlC w v n cs) (hf : Fr S w w') (hs : ∀ a m c, v = .slice (some a) m c → ¬ S a.block) : SlC w' v n cs := by
  obtain ⟨a, c, rfl, h1, h2, h3, h4⟩ := h
  refine ⟨a, c, rfl, h1, h2, h3, fun j u hj => ?_⟩
  obtain ⟨b, rfl, hb⟩ := h4 j u hj
  refine ⟨b, rfl, hf.cell hb ?_⟩
  have : (b.add j).block = b.block := by unfold Addr.add; split <;> rfl
  rw [this]
  exact hs b n c rfl
theorem SlC.grow {w w' : World} {v : Value} {n : Nat} {cs : List Value} (h : SlC w v n cs) (hf : Grow w w') : SlC w' v n cs := h.fr (Fr.of_grow (S := fun _ => False) hf) fun _ _ _ _ => id
theorem SlC.dr {w : World} {v : Value} {n : Nat} {cs : List Value} (h : SlC w v n cs) (m : Nat) : SlC (dr w m) v n cs := h.grow ((Grow.refl w).dr m)
theorem SlC.nil (w : World) : SlC w (.slice none 0 0) 0 [] := ⟨none, 0, rfl, by omega, by omega, fun _ => rfl, fun j u h => by simp at h⟩
theorem SlC.one {w : World} {v : Value} {n : Nat} {cs : List Value} (h : SlC w v n cs) : oneV v := by
  obtain ⟨a, c, rfl, _⟩ := h.ex; exact ⟨rfl, rfl⟩
theorem SlC.len_le {w : World} {v : Value} {n : Nat} {cs : List Value} (h : SlC w v n cs) : n ≤ 9223372036854775807 := by
  obtain ⟨a, c, rfl, h1, h2, _⟩ := h.ex; omega
theorem SlC.ln {w : World} {v : Value} {n : Nat} {cs : List Value} (h : SlC w v n cs) {K : Nat → Prop} (hk : K n) : ∃ (a : Option Addr) (m c : Nat), v = .slice a m c ∧ K m := by
  obtain ⟨a, c, rfl, _⟩ := h.ex; exact ⟨a, n, c, rfl, hk⟩
theorem SlC.ext {w : World} {v : Value} {n : Nat} {cs cs' : List Value} (h : SlC w v n cs) (e : ∀ (j : Nat) (u : Value), cs'[j]? = some u → cs[j]? = some u) : SlC w v n cs' := by
  obtain ⟨a, c, rfl, h1, h2, h3, h4⟩ := h.ex
  exact ⟨a, c, rfl, h1, h2, h3, fun j u hj => h4 j u (e j u hj)⟩

def encI (x : Int) : Value := .int .i64 x
/-- A slice of ints. -/
def SlI (w : World) (v : Value) (xs : List Int) : Prop := SlC w v xs.length (xs.map VC.encI)
theorem SlI.grow {w w' : World} {v : Value} {xs : List Int} (h : SlI w v xs) (hf : Grow w w') : SlI w' v xs := SlC.grow h hf
theorem SlI.dr {w : World} {v : Value} {xs : List Int} (h : SlI w v xs) (m : Nat) : SlI (dr w m) v xs := SlC.dr h m
theorem SlI.nil (w : World) : SlI w (.slice none 0 0) [] := SlC.nil w
theorem SlI.one {w : World} {v : Value} {xs : List Int} (h : SlI w v xs) : oneV v := SlC.one h
theorem SlI.len_le {w : World} {v : Value} {xs : List Int} (h : SlI w v xs) : xs.length ≤ 9223372036854775807 := SlC.len_le h
theorem SlI.ln {w : World} {v : Value} {xs : List Int} (h : SlI w v xs) {K : Nat → Prop} (hk : K xs.length) : ∃ (a : Option Addr) (m c : Nat), v = .slice a m c ∧ K m := SlC.ln h hk
theorem SlI.rd {w : World} {v : Value} {xs : List Int} (h : SlI w v xs) {i : Nat} {j : Int} (hj : j = (i : Int)) (hi : i < xs.length) {K : Int → Prop} (hk : K xs[i]) :
    ∃ (a : Addr) (m c : Nat), v = .slice (some a) m c ∧ ((0 : Int) ≤ j ∧ j < (m : Int)) ∧ ∃ t : Int, w.cell? (a.add (Int.toNat j * 1)) = some (.int .i64 t) ∧ K t := by
  subst hj
  obtain ⟨a, c, rfl, h1, h2, h3, h4⟩ := h.ex
  obtain ⟨b, rfl, hb⟩ := h4 i (VC.encI xs[i]) (by simp [hi])
  exact ⟨b, _, c, rfl, ⟨by omega, by omega⟩, xs[i], by simpa [VC.encI] using hb, hk⟩
/-- The beginning of a slice. -/
theorem SlI.upto {w : World} {v : Value} {xs : List Int} (h : SlI w v xs) {i : Nat} {k : IntKind} {z : Int} (hz : z = (i : Int)) (hi : i ≤ xs.length) {K : Value → Prop} (hk : ∀ v', SlI w v' (xs.take i) → K v') :
    ∃ (a : Option Addr) (n c : Nat), v = .slice a n c ∧ ∃ l hh m : Nat, sbR none (some (.int k z)) none n c l hh m ∧ K (.slice (if m = l then a else a.map (·.add (l * 1))) (hh - l) (m - l)) := by
  subst hz
  obtain ⟨a, c, rfl, h1, h2, h3, h4⟩ := h.ex
  refine ⟨a, _, c, rfl, 0, i, c, ⟨rfl, rfl, rfl, by simp, by omega, by omega, by omega⟩, hk _ ?_⟩
  refine ⟨a, c, ?_, by simp; omega, h2, h3, fun j u hj => ?_⟩
  · have : (xs.take i).length = i := by simp; omega
    rw [this]
    by_cases hc : c = 0
    · simp [hc]
    · rw [if_neg hc]
      cases a <;> simp [Addr.add]
  · refine h4 j u ?_
    simp only [List.map_take, List.getElem?_take] at hj
    split at hj
    · exact hj
    · cases hj

/-! ## Slices of the call's own -/
structure ElT (P : Program) (t e : TypeId) (sz bytes : Nat) (z : Value) : Prop where
  und : P.underlying t = some (.slice e)
  info : ∃ i, P.info? e = some i ∧ i.zero = some z ∧ i.size = sz ∧ i.bytes = bytes
  zs : z.cells.size = sz
/-- A slice of n elements that the call owns (from block B on), its cells cs. -/
abbrev Own (w : World) (B : Nat) (e : TypeId) (sz : Nat) (v : Value) (n : Nat) (cs : List Value) : Prop := w.ownsRow B e sz v n cs
theorem Own.slC {w : World} {B : Nat} {e : TypeId} {sz : Nat} {v : Value} {n : Nat} {cs : List Value} (h : Own w B e sz v n cs) : SlC w v n cs := by
  have hc := fun g => World.ownsRow.cells (g := g) h
  rcases h.2 with ⟨rfl, hn⟩ | ⟨g, cap, cur, rfl, hb, hg, h1, h2, h3, h4⟩
  · subst hn
    have : cs = [] := by have := h.1; simp at this; exact this
    subst this
    exact SlC.nil w
  · refine ⟨some ⟨g, 0, none⟩, cap, rfl, h1, by simpa [maxLen] using h2, (fun h => by cases h), fun j u hj => ⟨_, rfl, ?_⟩⟩
    exact hc g rfl j u hj
theorem Own.slI {w : World} {B : Nat} {e : TypeId} {v : Value} {n : Nat} {xs : List Int} (h : Own w B e 1 v n (xs.map VC.encI)) : SlI w v xs := by
  have := h.slC
  have hn : xs.length = n := by have := h.1; simpa using this
  subst hn
  exact this
theorem Own.nil (w : World) (B : Nat) (e : TypeId) (sz : Nat) : Own w B e sz (.slice none 0 0) 0 [] := World.ownsRow_nil w B e sz
theorem Own.fr {S : Nat → Prop} {w w' : World} {B : Nat} {e : TypeId} {sz : Nat} {v : Value} {n : Nat} {cs : List Value} (h : Own w B e sz v n cs) (hf : Fr S w w') (hs : ∀ k, v.ownBlock = some k → ¬ S k) : Own w' B e sz v n cs := by
  refine ⟨h.1, ?_⟩
  rcases h.2 with hn | ⟨g, cap, cur, rfl, hb, hgg, rest⟩
  · exact .inl hn
  · exact .inr ⟨g, cap, cur, rfl, hb, (hf.block g (Array.getElem?_eq_some_iff.1 hgg).1 (hs g rfl)).trans hgg, rest⟩
theorem Own.grow {w w' : World} {B : Nat} {e : TypeId} {sz : Nat} {v : Value} {n : Nat} {cs : List Value} (h : Own w B e sz v n cs) (hf : Grow w w') : Own w' B e sz v n cs := h.fr (Fr.of_grow (S := fun _ => False) hf) fun _ _ => id
theorem Own.dr {w : World} {B : Nat} {e : TypeId} {sz : Nat} {v : Value} {n : Nat} {cs : List Value} (h : Own w B e sz v n cs) (m : Nat) : Own (dr w m) B e sz v n cs := h.grow ((Grow.refl w).dr m)
theorem Own.mono {w : World} {B B' : Nat} {e : TypeId} {sz : Nat} {v : Value} {n : Nat} {cs : List Value} (h : Own w B e sz v n cs) (hB : B' ≤ B) : Own w B' e sz v n cs := by
  refine ⟨h.1, ?_⟩
  rcases h.2 with hn | ⟨g, cap, cur, rfl, hb, rest⟩
  · exact .inl hn
  · exact .inr ⟨g, cap, cur, rfl, by omega, rest⟩
theorem Own.lt {w : World} {B : Nat} {e : TypeId} {sz : Nat} {v : Value} {n : Nat} {cs : List Value} (h : Own w B e sz v n cs) {k : Nat} (hk : v.ownBlock = some k) : B ≤ k ∧ k < w.heap.size := World.ownsRow.lt h k hk
theorem Own.one {w : World} {B : Nat} {e : TypeId} {sz : Nat} {v : Value} {n : Nat} {cs : List Value} (h : Own w B e sz v n cs) : oneV v := h.slC.one
/-- A slice literal. -/
theorem Own.lit {w w' : World} {B : Nat} {e : TypeId} {cs : Array Value} {n sz : Nat} (h : w' = w.alloc (.cells cs e)) (hB : B ≤ w.heap.size) (hn : n ≤ 9223372036854775807) (hs : cs.size = n * sz) :
    Own w' B e sz (.slice (some ⟨w.heap.size, 0, none⟩) n n) n cs.toList := by
  subst h
  exact World.ownsRow_lit w cs n hB (by simpa [maxLen] using hn) hs
/-- append onto a slice of the call's own. -/
theorem papp {P : Program} {t ty e : TypeId} {sz bytes : Nat} {z : Value} (hT : ElT P t e sz bytes z) (hsz : 0 < sz) {w : World} {B : Nat} {v x : Value} {n m : Nat} {xs news : List Value} (hown : Own w B e sz v n xs) (hx : SlC w x m news) (hm : news.length = m * sz) (h1 : ∀ u ∈ news, u.oneCell' = true)
    (hB : B ≤ w.heap.size) (hlen : (n + m) * bytes ≤ 140737488355328) (hb : 0 < bytes) {K : Value → World → Prop}
    (hk : ∀ v' w', Own w' B e sz v' (n + m) (xs ++ news) → Fr (fun k => some k = v.ownBlock) w w' → (v' = .slice none 0 0 → n + m = 0) → K v' w') : PApp P t ty v x w K := by
  obtain ⟨i, hi, hz, hsize, hby⟩ := hT.info
  obtain ⟨a, c, rfl, hmc, hc, hnone, hcells⟩ := hx.ex
  cases a with
  | none =>
    have hc0 := hnone rfl
    subst hc0
    have hm0 : m = 0 := by omega
    subst hm0
    have hnews : news = [] := by simpa using hm
    subst hnews
    refine ⟨v, w, run_append_owned_none (P := P) w B t ty e i sz hT.und hi v n xs hown, hk _ _ (by simpa using hown) (Fr.refl _ _) ?_⟩
    intro hv
    rcases hown.2 with ⟨_, h0⟩ | ⟨g, cap, cur, rfl, _⟩
    · simpa using h0
    · cases hv
  | some a =>
    have hnm : n + m ≤ maxLen := by
      simp only [maxLen]
      have : n + m ≤ (n + m) * bytes := Nat.le_mul_of_pos_right _ hb
      omega
    obtain ⟨v', w', hr, ho, hg, hnil⟩ := run_append_own (P := P) w B t ty e i z sz bytes hT.und hi hz hsize hby hT.zs hsz v n xs hown a m c news hm
      (fun j u hj => by obtain ⟨b, hb', hcc⟩ := hcells j u hj; cases hb'; exact hcc) h1 hnm hlen hB
    refine ⟨v', w', hr, hk v' w' ho (Fr.of_grown hg) ?_⟩
    intro hv
    have h2 := hnil.1 hv
    have hn0 : n = 0 := by
      rcases hown.2 with ⟨_, h0⟩ | ⟨g, cap, cur, rfl, _⟩
      · exact h0
      · cases h2.1
    omega
/-- append of one element. -/
theorem papp1 {P : Program} {t ty e : TypeId} {bytes : Nat} {z : Value} (hT : ElT P t e 1 bytes z) {w w1 : World} {B : Nat} {v u : Value} {n : Nat} {xs : List Value} (hw : w1 = w.alloc (.cells #[u] e)) (hown : Own w B e 1 v n xs) (hu : u.oneCell' = true)
    (hB : B ≤ w.heap.size) (hlen : (n + 1) * bytes ≤ 140737488355328) (hb : 0 < bytes) {K : Value → World → Prop}
    (hk : ∀ v' w', Own w' B e 1 v' (n + 1) (xs ++ [u]) → Fr (fun k => some k = v.ownBlock) w1 w' → v' ≠ .slice none 0 0 → K v' w') : PApp P t ty v (.slice (some ⟨w.heap.size, 0, none⟩) 1 1) w1 K := by
  have hl := Own.lit (B := w.heap.size) (n := 1) (sz := 1) hw (Nat.le_refl _) (by omega) (by simp)
  refine papp hT (by omega) (hown.grow (alloc_grow hw)) hl.slC (by simp) (by simpa using hu) (by rw [alloc_size hw]; omega) hlen hb ?_
  intro v' w' ho hf hn
  exact hk v' w' ho hf fun e => by have := hn e; omega

/-! ## nil -/
theorem nilEq {P : Program} {t e : TypeId} (ht : P.underlying t = some (.slice e)) {ox : Operand} {c : Value} {a : Option Addr} {n m : Nat} : PBinR P .eql t ox (.const c) (.slice a n m) (.slice none 0 0) a.isNone := by
  intro w
  have hg : eqGuard .eql t ox (.const c) (.slice a n m) (.slice none 0 0) = pure () := by simp [eqGuard_at_slice]
  simp only [hg, Sem.run_bind, Sem.run_pure, Result.andThen_ok]
  exact Lib.run_eql_slice_nil w t e a n m 0 0 ht
end Go.Proofs.YtleiddajojgmmaaDoor.VC

/- append of one element, and whether the result shares its array with what it was appended to: for functions that append to one slice again and again. No condition. -/
namespace Go.Proofs.YtleiddajojgmmaaDoor.VC
open Go Go.RowKit
set_option linter.unusedSimpArgs false
set_option linter.unusedVariables false

/-- v' came of v by append: in v's array, or in a new one. -/
def Kin (w w' : World) (v v' : Value) (n : Nat) : Prop :=
  (∃ g cap, v = .slice (some ⟨g, 0, none⟩) n cap ∧ v' = .slice (some ⟨g, 0, none⟩) (n + 1) cap) ∨ (∃ k, v'.ownBlock = some k ∧ w.heap.size ≤ k ∧ Grow w w')
theorem papp1k {P : Program} {t ty e : TypeId} {bytes : Nat} {z : Value} (hT : ElT P t e 1 bytes z) {w w1 : World} {B : Nat} {v u : Value} {n : Nat} {xs : List Value} (hw : w1 = w.alloc (.cells #[u] e)) (hown : Own w B e 1 v n xs) (hu : u.oneCell' = true)
    (hB : B ≤ w.heap.size) (hlen : (n + 1) * bytes ≤ 140737488355328) (hb : 0 < bytes) {K : Value → World → Prop}
    (hk : ∀ v' w', Own w' B e 1 v' (n + 1) (xs ++ [u]) → Fr (fun k => some k = v.ownBlock) w1 w' → Kin w1 w' v v' n → K v' w') : PApp P t ty v (.slice (some ⟨w.heap.size, 0, none⟩) 1 1) w1 K := by
  obtain ⟨i, hi, hz, hsize, hby⟩ := hT.info
  have hown1 := hown.grow (alloc_grow hw)
  have hB1 : B ≤ w1.heap.size := by rw [alloc_size hw]; omega
  have hn : ∀ j y, [u][j]? = some y → w1.cell? ((⟨w.heap.size, 0, none⟩ : Addr).add j) = some y := fun j y hj => by
    obtain ⟨hj1, hj2⟩ := List.getElem?_eq_some_iff.1 hj
    have hj0 : j = 0 := by simpa using hj1
    subst hj0
    simp at hj2
    subst hj2
    exact alloc_cell0 hw
  have h1 : ∀ y ∈ [u], y.oneCell' = true := fun y hy => by
    have : y = u := by simpa using hy
    rw [this]; exact hu
  have hnl : n + 1 ≤ (n + 1) * bytes := Nat.le_mul_of_pos_right _ hb
  have hnm : n + 1 ≤ maxLen := by simp only [maxLen]; omega
  obtain ⟨v', w', hr, ho, hg, hnil⟩ := run_append_own (P := P) w1 B t ty e i z 1 bytes hT.und hi hz hsize hby hT.zs (by omega) v n xs hown1 _ 1 1 [u] (by simp) hn h1 hnm hlen hB1
  refine ⟨v', w', hr, hk v' w' ho (Fr.of_grown hg) ?_⟩
  have fresh : ∀ (a : Nat) (o : Obj), v'.ownBlock = some w1.heap.size → w' = w1.drew.alloc o → Kin w1 w' v v' n := fun a o h1 h2 => by
    refine .inr ⟨_, h1, Nat.le_refl _, ?_⟩
    subst h2
    exact (Below.drew (Grow.refl w1)).alloc (Nat.le_refl _) _
  rcases hown1.2 with ⟨rfl, rfl⟩ | ⟨g, cap, cur, rfl, hbg, hgg, hnc, hcm, hcs, htake⟩
  · have hr2 := run_append_nil (P := P) w1 t ty e i z hT.und hi hz _ 1 1 [u] (by simp [hsize]) hn (by omega) (by omega) (by rw [hby]; omega)
    rw [hr] at hr2
    simp only [Result.ok.injEq] at hr2
    obtain ⟨rfl, rfl⟩ := hr2
    exact fresh 0 _ rfl rfl
  · by_cases hroom : n + 1 ≤ cap
    · have hfit : n * i.size + [u].length ≤ cur.size := by rw [hsize, hcs]; simp; omega
      have hr2 := run_append_room (P := P) w1 t ty e i hT.und hi g n cap cur hgg _ 1 1 [u] (by simp [hsize]) hn h1 hroom hfit
      rw [hr] at hr2
      simp only [Result.ok.injEq] at hr2
      obtain ⟨rfl, rfl⟩ := hr2
      exact .inl ⟨g, cap, rfl, rfl⟩
    · have holds : ∀ j y, xs[j]? = some y → w1.cell? ((⟨g, 0, none⟩ : Addr).add j) = some y := World.ownsRow.cells (g := g) hown1 rfl
      have hr2 := run_append_grow (P := P) w1 t ty e i z hT.und hi hz ⟨g, 0, none⟩ n cap xs (by rw [hsize]; exact hown1.1) holds _ 1 1 [u] (by simp [hsize]) hn (by omega) (by omega) (growslice_fits (by omega) (by rw [hby]; exact hlen))
      rw [hr] at hr2
      simp only [Result.ok.injEq] at hr2
      obtain ⟨rfl, rfl⟩ := hr2
      exact fresh 0 _ rfl rfl
/-- What was appended to reads as it did, once the result does. -/
theorem kin_back {S : Nat → Prop} {w w' w2 : World} {B : Nat} {e : TypeId} {v v' u : Value} {n : Nat} {xs : List Value} (hk : Kin w w' v v' n) (ho : Own w B e 1 v n xs) (ho2 : Own w2 B e 1 v' (n + 1) (xs ++ [u])) (hf : Fr S w' w2)
    (hs : ∀ k, S k → some k = v'.ownBlock ∨ v.ownBlock ≠ some k) : Own w2 B e 1 v n xs := by
  rcases hk with ⟨g, cap, rfl, rfl⟩ | ⟨k, hv', hk, hg⟩
  · refine ⟨ho.1, .inr ?_⟩
    rcases ho2.2 with ⟨h, _⟩ | ⟨g', cap', cur, he, hb, hgg, hnc, hcm, hcs, htake⟩
    · cases h
    · simp only [Value.slice.injEq, Option.some.injEq, Addr.mk.injEq, and_true, true_and] at he
      obtain ⟨rfl, rfl⟩ := he
      refine ⟨g, cap, cur, rfl, hb, hgg, by omega, hcm, hcs, ?_⟩
      have hl := ho.1
      have h3 := congrArg (List.take (n * 1)) htake
      rw [List.take_take] at h3
      have e1 : min (n * 1) ((n + 1) * 1) = n * 1 := by omega
      rw [e1] at h3
      rw [h3, ← hl]
      simp
  · refine (ho.grow hg).fr hf fun j hj hsj => ?_
    have hlt := (Own.lt ho hj).2
    rcases hs j hsj with h | h
    · rw [hv'] at h
      simp at h; omega
    · exact h hj
end Go.Proofs.YtleiddajojgmmaaDoor.VC

/- An array of the call's own that is written in place; make. No condition. -/
namespace Go.Proofs.YtleiddajojgmmaaDoor.VC
open Go Go.RowKit
set_option linter.unusedSimpArgs false
set_option linter.unusedVariables false

theorem Own.set {w w' : World} {B : Nat} {e : TypeId} {g n cap i : Nat} {cs : List Value} {u : Value} (h : Own w B e 1 (.slice (some ⟨g, 0, none⟩) n cap) n cs) (hi : i < n) (hw : w' = w.setCell ⟨g, i, none⟩ u) : Own w' B e 1 (.slice (some ⟨g, 0, none⟩) n cap) n (cs.set i u) := by
  subst hw
  refine ⟨by simpa using h.1, .inr ?_⟩
  rcases h.2 with ⟨h1, _⟩ | ⟨g', cap', cur, he, hb, hgg, hnc, hcm, hcs, htake⟩
  · cases h1
  · simp only [Value.slice.injEq, Option.some.injEq, Addr.mk.injEq, and_true, true_and] at he
    obtain ⟨rfl, rfl⟩ := he
    refine ⟨g, cap, cur.setIfInBounds i u, rfl, hb, ?_, hnc, hcm, by simpa using hcs, ?_⟩
    · simp [World.setCell, Array.getElem?_modify, hgg]
    · rw [Array.toList_setIfInBounds, List.take_set, htake]
theorem Own.wr {w : World} {B : Nat} {e : TypeId} {g n cap i : Nat} {cs : List Value} (h : Own w B e 1 (.slice (some ⟨g, 0, none⟩) n cap) n cs) (hi : i < n) : (∃ old, w.cell? ⟨g, i, none⟩ = some old) ∧ w.frozen? ⟨g, i, none⟩ = false := by
  rcases h.2 with ⟨h1, _⟩ | ⟨g', cap', cur, he, hb, hgg, hnc, hcm, hcs, htake⟩
  · cases h1
  · simp only [Value.slice.injEq, Option.some.injEq, Addr.mk.injEq, and_true, true_and] at he
    obtain ⟨rfl, rfl⟩ := he
    have hl : i < cur.size := by omega
    refine ⟨⟨cur[i], ?_⟩, ?_⟩
    · simp [World.cell?, hgg, hl]
    · simp [World.frozen?, hgg]
theorem made_toList (z : Value) (n : Nat) : (madeCells #[z] n).toList = List.replicate n z := by
  apply List.ext_getElem
  · simp [madeCells]
  · intro i h1 h2
    simp [madeCells, Nat.mod_one]
/-- make([]T, n). -/
theorem Own.made {w w' : World} {B : Nat} {e : TypeId} {n m : Nat} {z : Value} (hw : w' = w.alloc (.cells (madeCells #[z] m) e)) (hm : m = n) (hB : B ≤ w.heap.size) (hn : n ≤ 9223372036854775807) : Own w' B e 1 (.slice (some ⟨w.heap.size, 0, none⟩) n n) n (List.replicate n z) := by
  subst hm
  have := Own.lit (n := m) (sz := 1) hw hB hn (by simp [madeCells])
  rwa [made_toList] at this
end Go.Proofs.YtleiddajojgmmaaDoor.VC

/- Bits: Go's operations on small sets, as operations on numbers. No program, no condition. -/
namespace Go.Proofs.YtleiddajojgmmaaDoor.VC
open Go Go.RowKit
set_option linter.unusedSimpArgs false
set_option linter.unusedVariables false

theorem wrap_nat {n : Nat} (h : n < 9223372036854775808) : IntKind.i64.wrap (n : Int) = n := by rw [IntKind.wrap_i64]; omega
theorem bits64 : IntKind.i64.bits = 64 := rfl
theorem ofInt_nat {n : Nat} (h : n < 9223372036854775808) : (BitVec.ofInt 64 (n : Int)).toNat = n := by
  rw [BitVec.toNat_ofInt]; omega
/-- a without b. -/
def nSub (a b : Nat) : Nat := a ^^^ (a &&& b)
theorem nSub_bit (a b i : Nat) : (nSub a b).testBit i = (a.testBit i && !b.testBit i) := by
  simp only [nSub, Nat.testBit_xor, Nat.testBit_and]
  cases a.testBit i <;> cases b.testBit i <;> rfl
theorem and_lt {a b n : Nat} (h : a < 2 ^ n) : a &&& b < 2 ^ n := Nat.lt_of_le_of_lt Nat.and_le_left h
theorem nSub_lt {a b n : Nat} (h : a < 2 ^ n) : nSub a b < 2 ^ n := Nat.xor_lt_two_pow h (and_lt h)
theorem iAnd_nat {a b : Nat} (ha : a < 9223372036854775808) (hb : b < 9223372036854775808) : iAnd .i64 (a : Int) (b : Int) = ((a &&& b : Nat) : Int) := by
  have h : a &&& b < 9223372036854775808 := Nat.lt_of_le_of_lt Nat.and_le_left ha
  show IntKind.i64.wrap (((BitVec.ofInt 64 (a : Int) &&& BitVec.ofInt 64 (b : Int)).toNat : Nat) : Int) = _
  rw [BitVec.toNat_and, ofInt_nat ha, ofInt_nat hb, wrap_nat h]
theorem iOr_nat {a b : Nat} (ha : a < 9223372036854775808) (hb : b < 9223372036854775808) : iOr .i64 (a : Int) (b : Int) = ((a ||| b : Nat) : Int) := by
  have h : a ||| b < 2 ^ 63 := Nat.or_lt_two_pow (by omega) (by omega)
  show IntKind.i64.wrap (((BitVec.ofInt 64 (a : Int) ||| BitVec.ofInt 64 (b : Int)).toNat : Nat) : Int) = _
  rw [BitVec.toNat_or, ofInt_nat ha, ofInt_nat hb, wrap_nat (show a ||| b < 9223372036854775808 by omega)]
theorem iXor_nat {a b : Nat} (ha : a < 9223372036854775808) (hb : b < 9223372036854775808) : iXor .i64 (a : Int) (b : Int) = ((a ^^^ b : Nat) : Int) := by
  have h : a ^^^ b < 2 ^ 63 := Nat.xor_lt_two_pow (by omega) (by omega)
  show IntKind.i64.wrap (((BitVec.ofInt 64 (a : Int) ^^^ BitVec.ofInt 64 (b : Int)).toNat : Nat) : Int) = _
  rw [BitVec.toNat_xor, ofInt_nat ha, ofInt_nat hb, wrap_nat (show a ^^^ b < 9223372036854775808 by omega)]
theorem not_and {a b : Nat} (ha : a < 2 ^ 64) (hb : b < 2 ^ 64) : a &&& (2 ^ 64 - 1 - b) = nSub a b := by
  apply Nat.eq_of_testBit_eq
  intro i
  have e : 2 ^ 64 - 1 - b = 2 ^ 64 - (b + 1) := by omega
  rw [e, Nat.testBit_and, nSub_bit, Nat.testBit_two_pow_sub_succ hb]
  by_cases hi : i < 64
  · simp [hi]
  · have : a.testBit i = false := Nat.testBit_lt_two_pow (Nat.lt_of_lt_of_le ha (Nat.pow_le_pow_right (by omega) (by omega)))
    simp [this]
theorem iAndNot_nat {a b : Nat} (ha : a < 9223372036854775808) (hb : b < 9223372036854775808) : iAndNot .i64 (a : Int) (b : Int) = ((nSub a b : Nat) : Int) := by
  have h : nSub a b < 2 ^ 63 := nSub_lt (by omega)
  show IntKind.i64.wrap (((BitVec.ofInt 64 (a : Int) &&& ~~~ BitVec.ofInt 64 (b : Int)).toNat : Nat) : Int) = _
  rw [BitVec.toNat_and, BitVec.toNat_not, ofInt_nat ha, ofInt_nat hb]
  rw [not_and (by omega) (by omega), wrap_nat (by omega)]
theorem iShl_nat {a i : Nat} (hi : i ≤ 64) (h : a * 2 ^ i < 9223372036854775808) : iShl .i64 (a : Int) (i : Int) = ((a * 2 ^ i : Nat) : Int) := by
  have e : min (Int.toNat (i : Int)) IntKind.i64.bits = i := by simp [bits64]; omega
  simp only [iShl, e]
  rw [show (a : Int) * 2 ^ i = ((a * 2 ^ i : Nat) : Int) by simp, wrap_nat h]
theorem iShl_one {i : Nat} (h : i < 63) : iShl .i64 1 (i : Int) = ((2 ^ i : Nat) : Int) := by
  have h2 : 1 * 2 ^ i < 9223372036854775808 := by
    have := Nat.pow_lt_pow_right (a := 2) (by omega) h
    omega
  have := iShl_nat (a := 1) (i := i) (by omega) h2
  simpa using this
theorem iShr_nat {a i : Nat} (hi : i ≤ 64) : iShr .i64 (a : Int) (i : Int) = ((a >>> i : Nat) : Int) := by
  have e : min (Int.toNat (i : Int)) IntKind.i64.bits = i := by simp [bits64]; omega
  simp only [iShr, e]
  rw [Int.fdiv_eq_ediv_of_nonneg _ (by exact_mod_cast Nat.zero_le (2 ^ i)), Nat.shiftRight_eq_div_pow]
  simp
/-- The answer of 'x>>i&1', whatever x is. -/
def ibit (x : Int) (i : Nat) : Int := x.fdiv (2 ^ i) % 2
theorem iAnd_one (x : Int) : iAnd .i64 x 1 = x % 2 := by
  have h1 : (BitVec.ofInt 64 1).toNat = 1 := by decide
  show IntKind.i64.wrap (((BitVec.ofInt 64 x &&& BitVec.ofInt 64 1).toNat : Nat) : Int) = _
  rw [BitVec.toNat_and, h1, BitVec.toNat_ofInt, Nat.and_one_is_mod]
  have e : (((x % (2 ^ 64 : Nat)).toNat % 2 : Nat) : Int) = x % 2 := by
    have : (2 ^ 64 : Nat) = 18446744073709551616 := by decide
    rw [this]; omega
  rw [e]
  rw [IntKind.wrap_i64]; omega
theorem iBit (x : Int) {i : Nat} (hi : i ≤ 64) : iAnd .i64 (iShr .i64 x (i : Int)) 1 = ibit x i := by
  have e : min (Int.toNat (i : Int)) IntKind.i64.bits = i := by simp [bits64]; omega
  rw [iAnd_one, ibit]
  simp only [iShr, e]
theorem ibit_nat (a i : Nat) : ibit (a : Int) i = if a.testBit i then 1 else 0 := by
  rw [ibit, Int.fdiv_eq_ediv_of_nonneg _ (by exact_mod_cast Nat.zero_le (2 ^ i)), Nat.testBit_eq_decide_div_mod_eq]
  have : ((a : Int) / 2 ^ i) % 2 = ((a / 2 ^ i % 2 : Nat) : Int) := by simp
  rw [this]
  rcases Nat.mod_two_eq_zero_or_one (a / 2 ^ i) with h | h <;> simp [h]
theorem ibit_01 (x : Int) (i : Nat) : ibit x i = 0 ∨ ibit x i = 1 := by unfold ibit; omega

/-! ## Sets of at most twelve elements -/
def tz (s : Nat) : Nat := ((List.range 12).find? s.testBit).getD 64
def els (s : Nat) : List Nat := (List.range 12).filter s.testBit
def pc (s : Nat) : Nat := (els s).length
theorem mem_els {s i : Nat} : i ∈ els s ↔ i < 12 ∧ s.testBit i = true := by simp [els]
theorem bit_lt {s i n : Nat} (h : s < 2 ^ n) (hb : s.testBit i = true) : i < n := by
  rcases Nat.lt_or_ge i n with h1 | h1
  · exact h1
  · rw [Nat.testBit_lt_two_pow (Nat.lt_of_lt_of_le h (Nat.pow_le_pow_right (by omega) h1))] at hb; cases hb
def stepOk (s : Nat) : Bool := s == 0 || (els s == tz s :: els (s &&& (s - 1)) && decide (s &&& (s - 1) < s) && decide (tz s < 12))
theorem stepAll' : ∀ a, a < 64 → ∀ b, b < 64 → stepOk (a * 64 + b) = true := by decide +kernel
theorem all4096 {p : Nat → Prop} (h : ∀ a, a < 64 → ∀ b, b < 64 → p (a * 64 + b)) (s : Nat) (hs : s < 4096) : p s := by
  have := h (s / 64) (by omega) (s % 64) (by omega)
  rwa [show s / 64 * 64 + s % 64 = s by omega] at this
theorem stepAll : ∀ s, s < 4096 → stepOk s = true := all4096 stepAll'
theorem els_step {s : Nat} (h : s < 4096) (h0 : s ≠ 0) : els s = tz s :: els (s &&& (s - 1)) ∧ s &&& (s - 1) < s ∧ tz s < 12 := by
  have := stepAll s h
  simp only [stepOk, Bool.or_eq_true, beq_iff_eq, h0, false_or, Bool.and_eq_true, decide_eq_true_eq] at this
  exact ⟨this.1.1, this.1.2, this.2⟩
theorem els_zero : els 0 = [] := by decide
theorem set_ext {s t n : Nat} (hs : s < 2 ^ n) (ht : t < 2 ^ n) (h : ∀ i, i < n → s.testBit i = t.testBit i) : s = t := by
  apply Nat.eq_of_testBit_eq
  intro i
  by_cases hi : i < n
  · exact h i hi
  · rw [Nat.testBit_lt_two_pow (Nat.lt_of_lt_of_le hs (Nat.pow_le_pow_right (by omega) (by omega))), Nat.testBit_lt_two_pow (Nat.lt_of_lt_of_le ht (Nat.pow_le_pow_right (by omega) (by omega)))]
theorem set_zero {s : Nat} : s = 0 ↔ ∀ i, s.testBit i = false := by
  constructor
  · rintro rfl i; simp
  · intro h; apply Nat.eq_of_testBit_eq; intro i; simp [h i]
end Go.Proofs.YtleiddajojgmmaaDoor.VC

/- Graphs of at most twelve nodes as lists of sets: the plain notions. No program, no condition. -/
namespace Go.Proofs.YtleiddajojgmmaaDoor
open Go Go.RowKit VC
set_option linter.unusedSimpArgs false
set_option linter.unusedVariables false

def ofN (l : List Nat) : List Int := l.map fun n : Nat => (n : Int)
@[simp] theorem ofN_len (l : List Nat) : (ofN l).length = l.length := by simp [ofN]
theorem ofN_app (a b : List Nat) : ofN (a ++ b) = ofN a ++ ofN b := by simp [ofN]
theorem ofN_get (l : List Nat) (i : Nat) (h : i < (ofN l).length) : (ofN l)[i] = ((l[i]'(by simpa using h) : Nat) : Int) := by simp [ofN]
/-- A valid graph, as Go's numbers. -/
def VG (G : List Int) : Prop := 1 ≤ G.length ∧ G.length ≤ 12 ∧ ∀ i (hi : i < G.length), 0 ≤ G[i] ∧ G[i] < 2 ^ G.length ∧ ibit G[i] i = 0 ∧ ∀ j (hj : j < G.length), ibit G[i] j = ibit G[j] i
/-- A valid graph, as sets. -/
structure VN (N : List Nat) : Prop where
  one : 1 ≤ N.length
  le : N.length ≤ 12
  lt : ∀ i (hi : i < N.length), N[i] < 2 ^ N.length
  irr : ∀ i (hi : i < N.length), N[i].testBit i = false
  sym : ∀ i j (hi : i < N.length) (hj : j < N.length), N[i].testBit j = N[j].testBit i
theorem VG_ofN {N : List Nat} : VG (ofN N) ↔ VN N := by
  have ib : ∀ (a i : Nat), ibit (a : Int) i = 0 ↔ a.testBit i = false := fun a i => by rw [ibit_nat]; cases a.testBit i <;> simp
  have ib2 : ∀ (a b i j : Nat), ibit (a : Int) i = ibit (b : Int) j ↔ a.testBit i = b.testBit j := fun a b i j => by rw [ibit_nat, ibit_nat]; cases a.testBit i <;> cases b.testBit j <;> simp
  have pw : ∀ (a n : Nat), (a : Int) < 2 ^ n ↔ a < 2 ^ n := fun a n => by
    have : ((2 : Int) ^ n) = ((2 ^ n : Nat) : Int) := by simp
    rw [this]; omega
  constructor
  · rintro ⟨h1, h2, h3⟩
    simp only [ofN_len] at h1 h2
    refine ⟨h1, h2, fun i hi => ?_, fun i hi => ?_, fun i j hi hj => ?_⟩
    · have := (h3 i (by simpa using hi)).2.1
      rw [ofN_get, pw] at this
      simpa using this
    · have := (h3 i (by simpa using hi)).2.2.1
      rw [ofN_get, ib] at this
      exact this
    · have := (h3 i (by simpa using hi)).2.2.2 j (by simpa using hj)
      rw [ofN_get, ofN_get, ib2] at this
      exact this
  · intro h
    refine ⟨by simpa using h.one, by simpa using h.le, fun i hi => ?_⟩
    have hi' : i < N.length := by simpa using hi
    rw [ofN_get]
    refine ⟨by omega, (pw _ _).2 (by simpa using h.lt i hi'), (ib _ _).2 (h.irr i hi'), fun j hj => ?_⟩
    have hj' : j < N.length := by simpa using hj
    rw [ofN_get, ib2]
    exact h.sym i j hi' hj'
/-- The neighbours of a node. -/
def nb (N : List Nat) (i : Nat) : Nat := N.getD i 0
theorem nb_get {N : List Nat} {i : Nat} (h : i < N.length) : N[i] = nb N i := by simp [nb, h]
theorem VN.nb_lt {N : List Nat} (h : VN N) (i : Nat) : nb N i < 2 ^ N.length := by
  by_cases hi : i < N.length
  · rw [← nb_get hi]; exact h.lt i hi
  · simp [nb, hi]; exact Nat.pow_pos (by omega)
theorem pow12 {n : Nat} (h : n ≤ 12) : 2 ^ n ≤ 4096 := Nat.pow_le_pow_right (by omega) h
theorem VN.pow {N : List Nat} (h : VN N) : 2 ^ N.length ≤ 4096 := pow12 h.le
theorem VN.nb_lt' {N : List Nat} (h : VN N) (i : Nat) : nb N i < 4096 := Nat.lt_of_lt_of_le (h.nb_lt i) h.pow
theorem VN.sym' {N : List Nat} (h : VN N) (i j : Nat) : (nb N i).testBit j = (nb N j).testBit i := by
  by_cases hi : i < N.length
  · by_cases hj : j < N.length
    · rw [← nb_get hi, ← nb_get hj]; exact h.sym i j hi hj
    · have : nb N j = 0 := by simp [nb, hj]
      rw [this, Nat.zero_testBit]
      cases hb : (nb N i).testBit j with
      | false => rfl
      | true => exact absurd (bit_lt (h.nb_lt i) hb) hj
  · have : nb N i = 0 := by simp [nb, hi]
    rw [this, Nat.zero_testBit]
    cases hb : (nb N j).testBit i with
    | false => rfl
    | true => exact absurd (bit_lt (h.nb_lt j) hb) hi
theorem VN.irr' {N : List Nat} (h : VN N) (i : Nat) : (nb N i).testBit i = false := by
  by_cases hi : i < N.length
  · rw [← nb_get hi]; exact h.irr i hi
  · have : nb N i = 0 := by simp [nb, hi]
    rw [this, Nat.zero_testBit]
/-- All nodes. -/
def al (N : List Nat) : Nat := 2 ^ N.length - 1
theorem al_lt (N : List Nat) : al N < 2 ^ N.length := by have : 0 < 2 ^ N.length := Nat.pow_pos (by omega); unfold al; omega
theorem al_bit (N : List Nat) (i : Nat) : (al N).testBit i = decide (i < N.length) := by unfold al; exact Nat.testBit_two_pow_sub_one ..
theorem sub_al {N : List Nat} {s : Nat} : s < 2 ^ N.length ↔ ∀ i, s.testBit i = true → i < N.length := by
  constructor
  · intro h i hb; exact bit_lt h hb
  · intro h
    exact Nat.lt_pow_two_of_testBit _ fun i hi => by
      cases hb : s.testBit i with
      | false => rfl
      | true => have := h i hb; omega
/-- A clique: any two different nodes of it are neighbours. -/
def Clq (N : List Nat) (s : Nat) : Prop := ∀ i, s.testBit i = true → ∀ j, s.testBit j = true → j ≠ i → (nb N i).testBit j = true
def cliq (N : List Nat) (s : Nat) : Bool := (List.range 12).all fun i => !s.testBit i || nSub (nSub s (nb N i)) (2 ^ i) == 0
theorem two_bit (i j : Nat) : (2 ^ i).testBit j = decide (i = j) := Nat.testBit_two_pow ..
theorem row_zero {N : List Nat} {s i : Nat} : nSub (nSub s (nb N i)) (2 ^ i) = 0 ↔ ∀ j, s.testBit j = true → j ≠ i → (nb N i).testBit j = true := by
  rw [set_zero]
  constructor
  · intro h j hj hne
    have := h j
    rw [nSub_bit, nSub_bit, two_bit, hj] at this
    cases hb : (nb N i).testBit j with
    | true => rfl
    | false => rw [hb] at this; simp at this; exact absurd this.symm hne
  · intro h j
    rw [nSub_bit, nSub_bit, two_bit]
    cases hj : s.testBit j with
    | false => simp
    | true =>
      by_cases e : j = i
      · subst e; simp
      · rw [h j hj e]; simp
theorem cliq_iff {N : List Nat} {s : Nat} (hs : s < 4096) : cliq N s = true ↔ Clq N s := by
  simp only [cliq, List.all_eq_true, List.mem_range, Bool.or_eq_true, Bool.not_eq_true', beq_iff_eq, row_zero]
  constructor
  · intro h i hi
    rcases h i (bit_lt (n := 12) hs hi) with h1 | h1
    · rw [hi] at h1; cases h1
    · exact h1
  · intro h i _
    cases hi : s.testBit i with
    | false => exact .inl rfl
    | true => exact .inr (h i hi)
/-- The greedy elimination order of the nodes that are left. -/
def ordN (N : List Nat) : Nat → Nat → Option (List Nat)
  | 0, left => if left = 0 then some [] else none
  | f + 1, left => if left = 0 then some [] else match (els left).find? fun i => cliq N (nb N i &&& left) with
    | none => none
    | some i => (ordN N f (nSub left (2 ^ i))).map (i :: ·)
def ordG (N : List Nat) : Option (List Nat) := ordN N 12 (al N)
end Go.Proofs.YtleiddajojgmmaaDoor

/- Contracts of the leaves: bits, searching by a function, cloning, comparing slices of ints. The table of bits is laid (Tab). -/
namespace Go.Proofs.YtleiddajojgmmaaDoor
open Go Go.RowKit VC
set_option linter.unusedSimpArgs false
set_option linter.unusedVariables false

/-- It returns v, and nothing that was there has turned. -/
def Ret6 (w : World) (v : Value) : Ending → World → Prop := fun e w' => e = .returned v ∧ Grow w w'
theorem el_int6 : ElT Tryd.prog 22 3 1 8 (.int .i64 0) := ⟨by kernel_rfl, ⟨Tryd.t3, by kernel_rfl, by kernel_rfl, by kernel_rfl, by kernel_rfl⟩, rfl⟩
/-! ## math/bits -/
def tab64 : List Nat := [0, 1, 56, 2, 57, 49, 28, 3, 61, 58, 42, 50, 38, 29, 17, 4, 62, 47, 59, 36, 45, 43, 51, 22, 53, 39, 33, 30, 24, 18, 12, 5, 63, 55, 48, 27, 60, 41, 37, 16, 46, 35, 44, 21, 52, 32, 23, 11, 54, 26, 40, 15, 34, 20, 31, 10, 25, 14, 19, 9, 13, 8, 7, 6]
/-- The table of package math/bits stands where it stood at the start. -/
def Tab (w : World) : Prop := ∀ j, j < 64 → w.cell? (Addr.add ⟨1, 0, none⟩ j) = some (.int .u8 (tab64.getD j 0 : Nat))
theorem Tab.grow {w w' : World} (h : Tab w) (hg : Grow w w') : Tab w' := fun j hj => hg.cell (h j hj)
theorem Tab.dr {w : World} (h : Tab w) (m : Nat) : Tab (dr w m) := h
def tzIdx (s : Nat) : Int := iShr .u64 (IntKind.wrap .u64 ((iAnd .u64 (s : Int) (IntKind.wrap .u64 (0 - (s : Int)))) * 285870213051353865)) 58
def tzOk (s : Nat) : Bool := s == 0 || (decide (0 ≤ tzIdx s) && decide (tzIdx s < 64) && tab64.getD (tzIdx s).toNat 0 == tz s)
theorem tzAll' : ∀ a, a < 64 → ∀ b, b < 64 → tzOk (a * 64 + b) = true := by decide +kernel
theorem tz64_c {s : Nat} (h : s < 4096) (h0 : s ≠ 0) {w : World} (hT : Tab w) : Calls Tryd.prog 79 #[.int .u64 (s : Int)] w (Ret6 w (.int .i64 (tz s : Int))) := by
  refine f79_calls _ ?_
  have hk := all4096 (p := fun s => tzOk s = true) tzAll' s h
  simp only [tzOk, Bool.or_eq_true, beq_iff_eq, h0, false_or, Bool.and_eq_true, decide_eq_true_eq] at hk
  obtain ⟨⟨h1, h2⟩, h3⟩ := hk
  have h4 := (els_step h h0).2.2
  have h5 : ¬ (s : Int) = 0 := by omega
  refine condD (fun e => absurd e h5) fun _ => ⟨by decide, ⟨h1, h2⟩, (tz s : Int), ?_, ?_⟩
  · have hlt : (tzIdx s).toNat < 64 := by clear h3; generalize tzIdx s = z at *; omega
    have hc := hT (tzIdx s).toNat hlt
    rw [h3, ← Nat.mul_one (tzIdx s).toNat] at hc
    exact hc
  · refine ⟨?_, Grow.refl w⟩
    rw [wrap_nat (by omega)]
theorem tz_c {s : Nat} (h : s < 4096) (h0 : s ≠ 0) {w : World} (hT : Tab w) : Calls Tryd.prog 68 #[.int .u64 (s : Int)] w (Ret6 w (.int .i64 (tz s : Int))) := by
  refine f68_calls _ ?_
  refine (tz64_c h h0 hT).mono ?_
  rintro e w' ⟨rfl, hg⟩
  exact ⟨_, rfl, rfl, hg⟩
theorem wrapU {n : Nat} (h : n < 9223372036854775808) : IntKind.u64.wrap (n : Int) = n := by
  have : IntKind.u64.wrap (n : Int) = (n : Int) % 2 ^ 64 := by simp [IntKind.wrap, IntKind.signed, IntKind.bits]
  rw [this]; omega

/-! ## Searching by a function -/
/-- The function value f answers p x, at each x of xs, in every world that has come of w. -/
def Asks6 (w : World) (f : Value) (xs : List Int) (p : Int → Bool) : Prop :=
  ∃ g fst cap, f = .func (.func g) fst cap ∧ callOK g = true ∧ ∀ x ∈ xs, ∀ w', Grow w w' → Calls Tryd.prog g (fst ++ #[.int .i64 x] ++ cap) w' (Ret6 w' (.bool (p x)))
def idxOf6 (p : Int → Bool) (xs : List Int) : Int := match xs.findIdx? p with | some i => i | none => -1
theorem indexFunc_c6 {w : World} {v f : Value} {xs : List Int} {p : Int → Bool} (hs : SlI w v xs) (hf : Asks6 w f xs p) : Calls Tryd.prog 35 #[v, f] w (Ret6 w (.int .i64 (idxOf6 p xs))) := by
  refine f35_calls _ _ ?_
  obtain ⟨g, fst, cap, rfl, hg, hcall⟩ := hf
  have hle := hs.len_le
  refine hs.ln ⟨fun t w' => ∃ k : Nat, t = k ∧ k ≤ xs.length ∧ Grow w w' ∧ ∀ j (hj : j < xs.length), j < k → p xs[j] = false, fun t _ => xs.length - t.toNat, ⟨0, rfl, by omega, Grow.refl w, fun j _ h => by omega⟩, ?_⟩
  rintro - t w1 ⟨k, rfl, hk, hw, hno⟩
  refine condD (fun hlt => ?_) (fun hge => ?_)
  · have hkl : k < xs.length := by omega
    refine (hs.grow hw).rd rfl hkl ⟨g, fst, cap, rfl, hg, ?_⟩
    refine (hcall xs[k] (List.getElem_mem hkl) w1 hw).mono ?_
    rintro e w2 ⟨rfl, hg2⟩
    refine ⟨_, rfl, condP_i (fun hp => ?_) (fun hp => ?_)⟩
    · refine ⟨?_, hw.trans hg2⟩
      have : xs.findIdx? p = some k := List.findIdx?_eq_some_iff_getElem.2 ⟨hkl, hp, fun j hj => by simpa using hno j (by omega) hj⟩
      rw [idxOf6, this]
    · refine ⟨by unfold inR; omega, ⟨k + 1, by omega, by omega, hw.trans hg2, fun j hj hjk => ?_⟩, by dsimp only; omega⟩
      by_cases e : j = k
      · subst e; exact hp
      · exact hno j hj (by omega)
  · refine ⟨?_, hw⟩
    have : xs.findIdx? p = none := List.findIdx?_eq_none_iff.2 fun x hx => by
      obtain ⟨j, hj, rfl⟩ := List.mem_iff_getElem.1 hx
      exact hno j hj (by omega)
    rw [idxOf6, this]
theorem idxOf_any6 (p : Int → Bool) (xs : List Int) : decide (0 ≤ idxOf6 p xs) = xs.any p := by
  unfold idxOf6
  cases h : xs.findIdx? p with
  | none =>
    have := List.findIdx?_eq_none_iff.1 h
    have : xs.any p = false := List.any_eq_false.2 fun x hx => by simp [this x hx]
    simp [this]
  | some i =>
    obtain ⟨hi, hp, _⟩ := List.findIdx?_eq_some_iff_getElem.1 h
    have : xs.any p = true := List.any_eq_true.2 ⟨xs[i], List.getElem_mem hi, hp⟩
    simp [this]
theorem containsFunc_c6 {w : World} {v f : Value} {xs : List Int} {p : Int → Bool} (hs : SlI w v xs) (hf : Asks6 w f xs p) : Calls Tryd.prog 41 #[v, f] w (Ret6 w (.bool (xs.any p))) := by
  refine f41_calls _ _ ?_
  refine (indexFunc_c6 hs hf).mono ?_
  rintro e w' ⟨rfl, hg⟩
  refine ⟨_, rfl, ?_, hg⟩
  rw [idxOf_any6]

/-! ## Cloning -/
/-! ## The elements of a set -/
theorem equal_c6 {w : World} {u v : Value} {xs ys : List Int} (hx : SlI w u xs) (hy : SlI w v ys) : Calls Tryd.prog 24 #[u, v] w (Ret6 w (.bool (decide (xs = ys)))) := by
  refine f24_calls _ _ ?_
  have h1 := hx.len_le
  have h2 := hy.len_le
  refine hx.ln (hy.ln (condP_i (fun h => ?_) fun h => ?_))
  · refine ⟨?_, Grow.refl w⟩
    have : xs ≠ ys := fun e => by subst e; simp at h
    simp [this]
  · have hl : xs.length = ys.length := by simp at h; omega
    refine hx.ln ⟨fun t w' => ∃ k : Nat, t = k ∧ k ≤ xs.length ∧ Grow w w' ∧ xs.take k = ys.take k, fun t _ => xs.length - t.toNat, ⟨0, rfl, by omega, Grow.refl w, by simp⟩, ?_⟩
    rintro - t w1 ⟨k, rfl, hk, hw, heq⟩
    refine condD (fun hlt => ?_) (fun hge => ?_)
    · have hkl : k < xs.length := by omega
      refine (hx.grow hw).rd rfl hkl ((hy.grow hw).rd rfl (by omega) fun m => ?_)
      refine condP_i (fun h => ?_) fun h => ?_
      · refine ⟨?_, hw.dr m⟩
        have : xs ≠ ys := fun e => by subst e; simp at h
        simp [this]
      · have he : xs[k] = ys[k]'(by omega) := by simpa using h
        refine ⟨by unfold inR; omega, ⟨k + 1, by omega, by omega, hw.dr m, ?_⟩, by dsimp only; omega⟩
        rw [List.take_succ_eq_append_getElem hkl, List.take_succ_eq_append_getElem (show k < ys.length by omega), heq, he]
    · refine ⟨?_, hw⟩
      have hk2 : k = xs.length := by omega
      subst hk2
      rw [List.take_length, hl, List.take_length] at heq
      simp [heq]
end Go.Proofs.YtleiddajojgmmaaDoor

/- Contracts of package chordal and of its reference, first part: validity, cliques, orders. The table of bits is laid (Tab). -/
namespace Go.Proofs.YtleiddajojgmmaaDoor
open Go Go.RowKit VC
set_option linter.unusedSimpArgs false
set_option linter.unusedVariables false

abbrev OwnI6 (w : World) (B : Nat) (v : Value) (xs : List Int) : Prop := Own w B 3 1 v xs.length (xs.map VC.encI)
theorem OwnI6.slI {w : World} {B : Nat} {v : Value} {xs : List Int} (h : OwnI6 w B v xs) : SlI w v xs := Own.slI h
theorem lt63 {s : Nat} (h : s < 4096) : s < 9223372036854775808 := by omega
theorem p2 {i : Nat} (h : i < 12) : 2 ^ i < 9223372036854775808 := by
  have := Nat.pow_lt_pow_right (a := 2) (by omega) h
  omega
/-- append of one int onto a slice of the call's own. -/
theorem pappI {w w1 : World} {B : Nat} {v : Value} {x : Int} {xs : List Int} (hw : w1 = w.alloc (.cells #[.int .i64 x] 3)) (hown : OwnI6 w B v xs) (hB : B ≤ w.heap.size) (hlen : xs.length ≤ 1000000) {K : Value → World → Prop}
    (hk : ∀ v' w', OwnI6 w' B v' (xs ++ [x]) → Fr (fun k => some k = v.ownBlock) w1 w' → K v' w') : PApp Tryd.prog 22 22 v (.slice (some ⟨w.heap.size, 0, none⟩) 1 1) w1 K := by
  refine papp1 el_int6 hw hown rfl hB (by omega) (by omega) ?_
  intro v' w' ho hf _
  refine hk v' w' ?_ hf
  have e : (xs ++ [x]).length = xs.length + 1 := by simp
  have e2 : (xs ++ [x]).map VC.encI = xs.map VC.encI ++ [.int .i64 x] := by simp [VC.encI]
  unfold OwnI6
  rw [e, e2]
  exact ho
theorem own_grow {w0 w w1 w' : World} {B : Nat} {v : Value} {xs : List Int} {o : Obj} (hg : Grow w0 w) (hown : OwnI6 w B v xs) (hB : w0.heap.size ≤ B) (hw : w1 = w.alloc o) (hf : Fr (fun k => some k = v.ownBlock) w1 w') : Grow w0 w' :=
  (hg.trans (alloc_grow hw)).fr hf fun i hi e => by have := hown.lt e.symm; omega
theorem VC.Box.dr {w : World} {b : Nat} {v : Value} (h : Box w b v) (m : Nat) : Box (dr w m) b v := h.grow ((Grow.refl w).dr m)

/-! ## Sets -/
theorem nodes_c {s : Nat} (h : s < 4096) {w : World} (hT : Tab w) : Calls Tryd.prog 48 #[.int .i64 (s : Int)] w fun e w' => ∃ v, e = .returned v ∧ OwnI6 w' w.heap.size v (ofN (els s)) ∧ Grow w w' := by
  refine f48_calls _ ?_
  refine ⟨fun t out w' => ∃ (s' : Nat) (done : List Nat), t = (s' : Int) ∧ s' < 4096 ∧ els s = done ++ els s' ∧ OwnI6 w' w.heap.size out (ofN done) ∧ Grow w w', fun t _ _ => t.toNat, ⟨s, [], rfl, h, rfl, Own.nil _ _ _ _, Grow.refl w⟩, ?_⟩
  rintro - t out w1 ⟨s', done, rfl, hs', he, ho, hg⟩
  have hlen : done.length ≤ 12 := by
    have h1 : (els s).length ≤ 12 := by unfold els; exact Nat.le_trans (List.length_filter_le _ _) (by simp)
    rw [he] at h1; simp at h1; omega
  refine condP_i (fun hb => ?_) (fun hb => ?_)
  · have h0 : s' ≠ 0 := by simpa using hb
    obtain ⟨e1, e2, e3⟩ := els_step hs' h0
    rw [wrapU (by omega)]
    refine (tz_c hs' h0 (hT.grow hg)).mono ?_
    rintro e w2 ⟨rfl, hg2⟩
    refine ⟨_, rfl, fun w3 hw3 => ?_⟩
    refine pappI hw3 (ho.grow hg2) (by have := (hg.trans hg2).size; omega) (by simp; omega) ?_
    intro v' w' ho' hf'
    have h1 : ((s' : Int) - 1) = ((s' - 1 : Nat) : Int) := by omega
    refine ⟨by unfold inR; omega, ⟨s' &&& (s' - 1), done ++ [tz s'], ?_, by omega, by rw [he, e1]; simp, ?_, ?_⟩, ?_⟩
    · rw [h1, iAnd_nat (by omega) (by omega)]
    · rw [ofN_app]; exact ho'
    · exact own_grow (hg.trans hg2) (ho.grow hg2) (Nat.le_refl _) hw3 hf'
    · dsimp only
      rw [h1, iAnd_nat (by omega) (by omega)]; omega
  · have h0 : s' = 0 := by simpa using hb
    subst h0
    rw [els_zero, List.append_nil] at he
    rw [he]
    exact ⟨out, rfl, ho, hg⟩
theorem all_c {w : World} {v : Value} {G : List Int} (hs : SlI w v G) (hl : G.length ≤ 12) : Calls Tryd.prog 47 #[v] w (Ret6 w (.int .i64 ((2 ^ G.length - 1 : Nat) : Int))) := by
  refine f47_calls _ ?_
  have h1 := pow12 hl
  have h2 : 0 < 2 ^ G.length := Nat.pow_pos (by omega)
  have e : (iShl .i64 1 (G.length : Int)) - 1 = ((2 ^ G.length - 1 : Nat) : Int) := by rw [iShl_one (by omega)]; omega
  refine hs.ln ⟨by omega, by rw [e]; unfold inR; omega, ?_, Grow.refl w⟩
  rw [e]
theorem clq_expr {s a k : Nat} (hs : s < 4096) (ha : a < 4096) (hk : k < 12) : iAndNot .i64 (iAndNot .i64 (s : Int) (a : Int)) (iShl .i64 1 (k : Int)) = ((nSub (nSub s a) (2 ^ k) : Nat) : Int) := by
  have h1 : nSub s a < 2 ^ 12 := nSub_lt (n := 12) hs
  rw [iShl_one (by omega), iAndNot_nat (by omega) (by omega), iAndNot_nat (by omega) (p2 hk)]
theorem clq_any {N : List Nat} {s : Nat} : ((ofN (els s)).any fun x => !decide ((iAndNot .i64 (iAndNot .i64 (s : Int) ((nb N x.toNat : Nat) : Int)) (iShl .i64 1 x)) = 0)) = !cliq N s ∨ ¬ (s < 4096 ∧ ∀ i, nb N i < 4096) := by
  by_cases h : s < 4096 ∧ ∀ i, nb N i < 4096
  · refine .inl ?_
    obtain ⟨hs, hn⟩ := h
    rw [Bool.eq_iff_iff]
    simp only [List.any_eq_true, Bool.not_eq_true', cliq, List.all_eq_false, List.mem_range, decide_eq_false_iff_not, ofN, List.mem_map, mem_els]
    constructor
    · rintro ⟨x, ⟨i, ⟨hi, hb⟩, rfl⟩, h⟩
      refine ⟨i, hi, ?_⟩
      rw [Int.toNat_natCast, clq_expr hs (hn i) hi] at h
      simp [hb]
      omega
    · rintro ⟨i, hi, h⟩
      simp at h
      refine ⟨_, ⟨i, ⟨hi, h.1⟩, rfl⟩, ?_⟩
      rw [Int.toNat_natCast, clq_expr hs (hn i) hi]
      omega
  · exact .inr h
/-- The closure of 'clique' in a world in which its boxes stand. -/
theorem clique_lit_c {w : World} {b1 b2 : Nat} {g : Value} {N : List Nat} {s : Nat} (h1 : w.cell? ⟨b1, 0, none⟩ = some (.int .i64 (s : Int))) (h2 : w.cell? ⟨b2, 0, none⟩ = some g) (hg : SlI w g (ofN N)) (hN : VN N) {i : Nat} (hi : i < N.length) :
    Calls Tryd.prog 69 #[.int .i64 (i : Int), .pointer (some ⟨b1, 0, none⟩), .pointer (some ⟨b2, 0, none⟩)] w
      (Ret6 w (.bool (!decide ((iAndNot .i64 (iAndNot .i64 (s : Int) ((nb N i : Nat) : Int)) (iShl .i64 1 (i : Int))) = 0)))) := by
  refine f69_calls _ _ _ ?_
  refine ⟨_, h1, _, h2, hg.rd rfl (by simpa using hi) ⟨by omega, fun m => ⟨?_, (Grow.refl w).dr m⟩⟩⟩
  rw [ofN_get, nb_get]
theorem clique_c {w : World} {v : Value} {N : List Nat} (hs : SlI w v (ofN N)) (hN : VN N) {s : Nat} (hl : s < 2 ^ N.length) (hT : Tab w) : Calls Tryd.prog 50 #[v, .int .i64 (s : Int)] w (Ret6 w (.bool (cliq N s))) := by
  refine f50_calls _ _ ?_
  have hs4 : s < 4096 := Nat.lt_of_lt_of_le hl hN.pow
  refine ⟨hs.one, fun w1 hw1 w2 hw2 => ?_⟩
  have g1 := alloc_grow hw1
  have g2 := alloc_grow hw2
  refine ⟨_, alloc_cell0 hw2, ?_⟩
  refine (nodes_c hs4 (hT.grow (g1.trans g2))).mono ?_
  rintro e w3 ⟨u, rfl, ho, g3⟩
  refine ⟨u, rfl, ?_⟩
  have hask : Asks6 w3 (.func (.func 69) #[] #[.pointer (some ⟨w1.heap.size, 0, none⟩), .pointer (some ⟨w.heap.size, 0, none⟩)]) (ofN (els s))
      (fun x => !decide ((iAndNot .i64 (iAndNot .i64 (s : Int) ((nb N x.toNat : Nat) : Int)) (iShl .i64 1 x)) = 0)) := by
    refine ⟨_, _, _, rfl, rfl, fun x hx w' hw' => ?_⟩
    simp only [ofN, List.mem_map, mem_els] at hx
    obtain ⟨i, ⟨hi, hb⟩, rfl⟩ := hx
    simp only [Int.toNat_natCast]
    exact clique_lit_c (hw'.cell (g3.cell (alloc_cell0 hw2))) (hw'.cell (g3.cell (g2.cell (alloc_cell0 hw1)))) (hs.grow (((g1.trans g2).trans g3).trans hw')) hN (bit_lt hl hb)
  refine (containsFunc_c6 ho.slI hask).mono ?_
  rintro e w4 ⟨rfl, g4⟩
  refine ⟨_, rfl, ?_, ((g1.trans g2).trans g3).trans g4⟩
  rcases clq_any (N := N) (s := s) with h | h
  · rw [h]; simp
  · exact absurd ⟨hs4, hN.nb_lt'⟩ h

/-! ## Validity -/
theorem shl_le {n : Nat} {x : Int} (hn : n ≤ 12) : iShl .i64 1 (n : Int) ≤ x ↔ 2 ^ n ≤ x := by
  have := pow12 hn
  rw [iShl_one (by omega)]
  have e : ((2 ^ n : Nat) : Int) = (2 : Int) ^ n := by simp
  rw [e]
theorem valid_c6 {w : World} {v : Value} {G : List Int} (hs : SlI w v G) {b : Bool} (hb : b = true ↔ VG G) : Calls Tryd.prog 30 #[v] w (Ret6 w (.bool b)) := by
  refine f30_calls _ ?_
  have no : ∀ {w'}, Grow w w' → ¬ VG G → Ret6 w (.bool b) (.returned (.bool false)) w' := fun hg h => by
    have : b = false := by cases b with | false => rfl | true => exact absurd (hb.1 rfl) h
    subst this
    exact ⟨rfl, hg⟩
  refine hs.ln (condD (fun h => no (Grow.refl w) fun hv => by have := hv.1; omega) fun h1 => condD (fun h => no (Grow.refl w) fun hv => by have := hv.2.1; omega) fun h2 => hs.ln ?_)
  refine ⟨fun t w' => ∃ k : Nat, t = k ∧ k ≤ G.length ∧ Grow w w' ∧ ∀ i (hi : i < G.length), i < k → 0 ≤ G[i] ∧ G[i] < 2 ^ G.length ∧ ibit G[i] i = 0 ∧ ∀ j (hj : j < G.length), ibit G[i] j = ibit G[j] i, fun t _ => G.length - t.toNat,
    ⟨0, rfl, by omega, Grow.refl w, fun i _ h => by omega⟩, ?_⟩
  rintro - t w1 ⟨k, rfl, hk, hg, hall⟩
  refine condD (fun hlt => ?_) (fun hge => ?_)
  · have hkl : k < G.length := by omega
    refine (hs.grow hg).rd rfl hkl ?_
    refine condD (fun h => no hg fun hv => by have := (hv.2.2 k hkl).1; omega) fun h3 => ⟨by omega, condD (fun h => no hg fun hv => ?_) fun h4 => ⟨by omega, condD (fun h => no hg fun hv => ?_) fun h5 => ?_⟩⟩
    · rw [shl_le (by omega)] at h
      have := (hv.2.2 k hkl).2.1; omega
    · rw [iBit _ (by omega), (hv.2.2 k hkl).2.2.1] at h; omega
    · rw [shl_le (by omega)] at h4
      rw [iBit _ (by omega)] at h5
      refine ⟨fun t w' => ∃ m : Nat, t = m ∧ m ≤ G.length ∧ Grow w w' ∧ ∀ j (hj : j < G.length), j < m → ibit G[k] j = ibit G[j] k, fun t _ => G.length - t.toNat, ⟨0, rfl, by omega, hg, fun j _ h => by omega⟩, ?_⟩
      rintro - t w2 ⟨m, rfl, hm, hg2, hrow⟩
      refine condD (fun hlt2 => ?_) (fun hge2 => ?_)
      · have hml : m < G.length := by omega
        refine ⟨by omega, (hs.grow hg2).rd rfl hml ⟨by omega, fun d => ?_⟩⟩
        rw [iBit _ (by omega), iBit _ (by omega)]
        refine condP_i (fun h => no (hg2.dr d) fun hv => ?_) fun h => ?_
        · have := (hv.2.2 k hkl).2.2.2 m hml
          simp [this] at h
        · refine ⟨by unfold inR; omega, ⟨m + 1, by omega, by omega, hg2.dr d, fun j hj hjm => ?_⟩, by dsimp only; omega⟩
          by_cases e : j = m
          · subst e; simpa using h
          · exact hrow j hj (by omega)
      · refine ⟨by unfold inR; omega, ⟨k + 1, by omega, by omega, hg2, fun i hi hik => ?_⟩, by dsimp only; omega⟩
        by_cases e : i = k
        · subst e
          refine ⟨by omega, by omega, ?_, fun j hj => hrow j hj (by omega)⟩
          rcases ibit_01 G[i] i with h | h
          · exact h
          · exact absurd h h5
        · exact hall i hi (by omega)
  · have : b = true := hb.2 ⟨by omega, by omega, fun i hi => hall i hi (by omega)⟩
    subst this
    exact ⟨rfl, hg⟩
end Go.Proofs.YtleiddajojgmmaaDoor
