/- Memory: slices that read as lists, memory of the call's own, what a step keeps. Lemmas in the form of the printed conditions. No condition. -/
import Derived.Test.YtmjpnfapjcfejaaVf
import Derived.Laws.OwnMore
import Derived.Laws.AppendOwn
import Derived.Lib.SliceRun
import Derived.Laws.MakeOwn
namespace Go.Proofs.Ytmjpnfapjcfejaa.VC
open Go Go.RowKit
set_option linter.unusedSimpArgs false
set_option linter.unusedVariables false

/-- Of what was there nothing has turned but blocks of S. -/
structure Fr (S : Nat → Prop) (w w' : World) : Prop where
  os : w'.os = w.os
  tape : w'.tape = w.tape
  output : w'.output = w.output
  size : w.heap.size ≤ w'.heap.size
  block : ∀ k, k < w.heap.size → ¬ S k → w'.heap[k]? = w.heap[k]?
theorem Fr.refl (S : Nat → Prop) (w : World) : Fr S w w := ⟨rfl, rfl, rfl, Nat.le_refl _, fun _ _ _ => rfl⟩
theorem Fr.trans {S : Nat → Prop} {a b c : World} (h : Fr S a b) (k : Fr S b c) : Fr S a c :=
  ⟨k.os.trans h.os, k.tape.trans h.tape, k.output.trans h.output, Nat.le_trans h.size k.size, fun i hi hs => (k.block i (by have := h.size; omega) hs).trans (h.block i hi hs)⟩
theorem Fr.mono {S S' : Nat → Prop} {a b : World} (h : Fr S a b) (hs : ∀ k, k < a.heap.size → S k → S' k) : Fr S' a b :=
  ⟨h.os, h.tape, h.output, h.size, fun i hi hn => h.block i hi fun hk => hn (hs i hi hk)⟩
theorem Fr.of_grow {S : Nat → Prop} {a b : World} (h : Grow a b) : Fr S a b := ⟨h.os, h.tape, h.output, h.size, fun i hi _ => h.block i hi⟩
/-- What only turned blocks that were not there at first: nothing of the first world has turned. -/
theorem Grow.fr {S : Nat → Prop} {a b c : World} (h : Grow a b) (k : Fr S b c) (hs : ∀ i, i < a.heap.size → ¬ S i) : Grow a c :=
  ⟨k.os.trans h.os, k.tape.trans h.tape, k.output.trans h.output, Nat.le_trans h.size k.size, fun i hi => (k.block i (by have := h.size; omega) (hs i hi)).trans (h.block i hi)⟩
theorem Fr.of_grown {w w' : World} {r : Option Nat} (h : w.grownBy w' r) : Fr (fun k => some k = r) w w' := ⟨h.os, h.tape, h.output, h.size, h.block⟩
theorem Fr.cell {S : Nat → Prop} {w w' : World} (h : Fr S w w') {a : Addr} {v : Value} (hc : w.cell? a = some v) (hs : ¬ S a.block) : w'.cell? a = some v :=
  (World.cell?_of_block (h.block a.block (World.block_lt_of_cell? w a hc) hs)).trans hc
theorem Fr.frozen {S : Nat → Prop} {w w' : World} (h : Fr S w w') {a : Addr} (hlt : a.block < w.heap.size) (hs : ¬ S a.block) : w'.frozen? a = w.frozen? a :=
  World.frozen?_of_block (h.block a.block hlt hs)
theorem grow_frozen {w w' : World} (h : Grow w w') {a : Addr} (hlt : a.block < w.heap.size) : w'.frozen? a = w.frozen? a :=
  World.frozen?_of_block (h.block a.block hlt)

/-- What a new block is good for. -/
theorem alloc_grow {w w' : World} {o : Obj} (h : w' = w.alloc o) : Grow w w' := by subst h; exact (Grow.refl w).alloc o
theorem alloc_size {w w' : World} {o : Obj} (h : w' = w.alloc o) : w'.heap.size = w.heap.size + 1 := by subst h; simp
theorem alloc_cell {w w' : World} {cs : Array Value} {e : TypeId} (h : w' = w.alloc (.cells cs e)) (j : Nat) : w'.cell? ⟨w.heap.size, j, none⟩ = cs[j]? := by subst h; simp
theorem alloc_cell0 {w w' : World} {v : Value} {e : TypeId} (h : w' = w.alloc (.cells #[v] e)) : w'.cell? ⟨w.heap.size, 0, none⟩ = some v := by subst h; simp
theorem alloc_free {w w' : World} {cs : Array Value} {e : TypeId} (h : w' = w.alloc (.cells cs e)) (j : Nat) : w'.frozen? ⟨w.heap.size, j, none⟩ = false := by subst h; simp

/-- A box of one cell that may be written. -/
structure Box (w : World) (b : Nat) (v : Value) : Prop where
  cell : w.cell? ⟨b, 0, none⟩ = some v
  free : w.frozen? ⟨b, 0, none⟩ = false
theorem Box.lt {w : World} {b : Nat} {v : Value} (h : Box w b v) : b < w.heap.size := World.block_lt_of_cell? w _ h.cell
theorem Box.new {w w' : World} {v : Value} {e : TypeId} (h : w' = w.alloc (.cells #[v] e)) : Box w' w.heap.size v := ⟨alloc_cell0 h, alloc_free h 0⟩
theorem Box.fr {S : Nat → Prop} {w w' : World} {b : Nat} {v : Value} (h : Box w b v) (hf : Fr S w w') (hs : ¬ S b) : Box w' b v :=
  ⟨hf.cell h.cell hs, (hf.frozen (a := ⟨b, 0, none⟩) h.lt hs).trans h.free⟩
theorem Box.grow {w w' : World} {b : Nat} {v : Value} (h : Box w b v) (hf : Grow w w') : Box w' b v := h.fr (Fr.of_grow (S := fun _ => False) hf) id
theorem Box.set {w w' : World} {b : Nat} {v x : Value} (h : Box w b v) (hw : w' = w.setCell ⟨b, 0, none⟩ x) : Box w' b x := by
  subst hw
  exact ⟨World.cell?_setCell_same w _ _ h.cell, by simp [h.free]⟩
theorem set_fr {w w' : World} {a : Addr} {x : Value} (hw : w' = w.setCell a x) : Fr (fun k => k = a.block) w w' := by
  subst hw
  exact ⟨rfl, rfl, rfl, by simp, fun k _ hk => Below.heap_setCell _ _ _ _ hk⟩

/-! ## Slices -/
/-- A slice of n elements whose cells read as cs. -/
structure SlC (w : World) (v : Value) (n : Nat) (cs : List Value) : Prop where
  ex : ∃ (a : Option Addr) (c : Nat), v = .slice a n c ∧ n ≤ c ∧ c ≤ 9223372036854775807 ∧ (a = none → c = 0) ∧ ∀ j u, cs[j]? = some u → ∃ b, a = some b ∧ w.cell? (b.add j) = some u
theorem SlC.fr {S : Nat → Prop} {w w' : World} {v : Value} {n : Nat} {cs : List Value} (h : SlC w v n cs) (hf : Fr S w w') (hs : ∀ a m c, v = .slice (some a) m c → ¬ S a.block) : SlC w' v n cs := by
  obtain ⟨a, c, rfl, h1, h2, h3, h4⟩ := h
  refine ⟨a, c, rfl, h1, h2, h3, fun j u hj => ?_⟩
  obtain ⟨b, rfl, hb⟩ := h4 j u hj
  refine ⟨b, rfl, hf.cell hb ?_⟩
  have : (b.add j).block = b.block := by unfold Addr.add; split <;> rfl
  rw [this]
  exact hs b n c rfl
theorem SlC.grow {w w' : World} {v : Value} {n : Nat} {cs : List Value} (h : SlC w v n cs) (hf : Grow w w') : SlC w' v n cs := h.fr (Fr.of_grow (S := fun _ => False) hf) fun _ _ _ _ => id
theorem SlC.dr {w : World} {v : Value} {n : Nat} {cs : List Value} (h : SlC w v n cs) (m : Nat) : SlC (dr w m) v n cs := h.grow ((Grow.refl w).dr m)
theorem SlC.nil (w : World) : SlC w (.slice none 0 0) 0 [] := ⟨none, 0, rfl, by omega, by omega, fun _ => rfl, fun j u h => by simp at h⟩
theorem SlC.one {w : World} {v : Value} {n : Nat} {cs : List Value} (h : SlC w v n cs) : oneV v := by
  obtain ⟨a, c, rfl, _⟩ := h.ex; exact ⟨rfl, rfl⟩
theorem SlC.len_le {w : World} {v : Value} {n : Nat} {cs : List Value} (h : SlC w v n cs) : n ≤ 9223372036854775807 := by
  obtain ⟨a, c, rfl, h1, h2, _⟩ := h.ex; omega
theorem SlC.ln {w : World} {v : Value} {n : Nat} {cs : List Value} (h : SlC w v n cs) {K : Nat → Prop} (hk : K n) : ∃ (a : Option Addr) (m c : Nat), v = .slice a m c ∧ K m := by
  obtain ⟨a, c, rfl, _⟩ := h.ex; exact ⟨a, n, c, rfl, hk⟩
theorem SlC.ext {w : World} {v : Value} {n : Nat} {cs cs' : List Value} (h : SlC w v n cs) (e : ∀ (j : Nat) (u : Value), cs'[j]? = some u → cs[j]? = some u) : SlC w v n cs' := by
  obtain ⟨a, c, rfl, h1, h2, h3, h4⟩ := h.ex
  exact ⟨a, c, rfl, h1, h2, h3, fun j u hj => h4 j u (e j u hj)⟩

def encI (x : Int) : Value := .int .i64 x
/-- A slice of ints. -/
def SlI (w : World) (v : Value) (xs : List Int) : Prop := SlC w v xs.length (xs.map encI)
theorem SlI.grow {w w' : World} {v : Value} {xs : List Int} (h : SlI w v xs) (hf : Grow w w') : SlI w' v xs := SlC.grow h hf
theorem SlI.dr {w : World} {v : Value} {xs : List Int} (h : SlI w v xs) (m : Nat) : SlI (dr w m) v xs := SlC.dr h m
theorem SlI.nil (w : World) : SlI w (.slice none 0 0) [] := SlC.nil w
theorem SlI.one {w : World} {v : Value} {xs : List Int} (h : SlI w v xs) : oneV v := SlC.one h
theorem SlI.len_le {w : World} {v : Value} {xs : List Int} (h : SlI w v xs) : xs.length ≤ 9223372036854775807 := SlC.len_le h
theorem SlI.ln {w : World} {v : Value} {xs : List Int} (h : SlI w v xs) {K : Nat → Prop} (hk : K xs.length) : ∃ (a : Option Addr) (m c : Nat), v = .slice a m c ∧ K m := SlC.ln h hk
theorem SlI.rd {w : World} {v : Value} {xs : List Int} (h : SlI w v xs) {i : Nat} {j : Int} (hj : j = (i : Int)) (hi : i < xs.length) {K : Int → Prop} (hk : K xs[i]) :
    ∃ (a : Addr) (m c : Nat), v = .slice (some a) m c ∧ ((0 : Int) ≤ j ∧ j < (m : Int)) ∧ ∃ t : Int, w.cell? (a.add (Int.toNat j * 1)) = some (.int .i64 t) ∧ K t := by
  subst hj
  obtain ⟨a, c, rfl, h1, h2, h3, h4⟩ := h.ex
  obtain ⟨b, rfl, hb⟩ := h4 i (encI xs[i]) (by simp [hi])
  exact ⟨b, _, c, rfl, ⟨by omega, by omega⟩, xs[i], by simpa [encI] using hb, hk⟩
/-- The beginning of a slice. -/
theorem SlI.upto {w : World} {v : Value} {xs : List Int} (h : SlI w v xs) {i : Nat} {k : IntKind} {z : Int} (hz : z = (i : Int)) (hi : i ≤ xs.length) {K : Value → Prop} (hk : ∀ v', SlI w v' (xs.take i) → K v') :
    ∃ (a : Option Addr) (n c : Nat), v = .slice a n c ∧ ∃ l hh m : Nat, sbR none (some (.int k z)) none n c l hh m ∧ K (.slice (if m = l then a else a.map (·.add (l * 1))) (hh - l) (m - l)) := by
  subst hz
  obtain ⟨a, c, rfl, h1, h2, h3, h4⟩ := h.ex
  refine ⟨a, _, c, rfl, 0, i, c, ⟨rfl, rfl, rfl, by simp, by omega, by omega, by omega⟩, hk _ ?_⟩
  refine ⟨a, c, ?_, by simp; omega, h2, h3, fun j u hj => ?_⟩
  · have : (xs.take i).length = i := by simp; omega
    rw [this]
    by_cases hc : c = 0
    · simp [hc]
    · rw [if_neg hc]
      cases a <;> simp [Addr.add]
  · refine h4 j u ?_
    simp only [List.map_take, List.getElem?_take] at hj
    split at hj
    · exact hj
    · cases hj

/-! ## Slices of the call's own -/
structure ElT (P : Program) (t e : TypeId) (sz bytes : Nat) (z : Value) : Prop where
  und : P.underlying t = some (.slice e)
  info : ∃ i, P.info? e = some i ∧ i.zero = some z ∧ i.size = sz ∧ i.bytes = bytes
  zs : z.cells.size = sz
/-- A slice of n elements that the call owns (from block B on), its cells cs. -/
abbrev Own (w : World) (B : Nat) (e : TypeId) (sz : Nat) (v : Value) (n : Nat) (cs : List Value) : Prop := w.ownsRow B e sz v n cs
theorem Own.slC {w : World} {B : Nat} {e : TypeId} {sz : Nat} {v : Value} {n : Nat} {cs : List Value} (h : Own w B e sz v n cs) : SlC w v n cs := by
  have hc := fun g => World.ownsRow.cells (g := g) h
  rcases h.2 with ⟨rfl, hn⟩ | ⟨g, cap, cur, rfl, hb, hg, h1, h2, h3, h4⟩
  · subst hn
    have : cs = [] := by have := h.1; simp at this; exact this
    subst this
    exact SlC.nil w
  · refine ⟨some ⟨g, 0, none⟩, cap, rfl, h1, by simpa [maxLen] using h2, (fun h => by cases h), fun j u hj => ⟨_, rfl, ?_⟩⟩
    exact hc g rfl j u hj
theorem Own.slI {w : World} {B : Nat} {e : TypeId} {v : Value} {n : Nat} {xs : List Int} (h : Own w B e 1 v n (xs.map encI)) : SlI w v xs := by
  have := h.slC
  have hn : xs.length = n := by have := h.1; simpa using this
  subst hn
  exact this
theorem Own.nil (w : World) (B : Nat) (e : TypeId) (sz : Nat) : Own w B e sz (.slice none 0 0) 0 [] := World.ownsRow_nil w B e sz
theorem Own.fr {S : Nat → Prop} {w w' : World} {B : Nat} {e : TypeId} {sz : Nat} {v : Value} {n : Nat} {cs : List Value} (h : Own w B e sz v n cs) (hf : Fr S w w') (hs : ∀ k, v.ownBlock = some k → ¬ S k) : Own w' B e sz v n cs := by
  refine ⟨h.1, ?_⟩
  rcases h.2 with hn | ⟨g, cap, cur, rfl, hb, hgg, rest⟩
  · exact .inl hn
  · exact .inr ⟨g, cap, cur, rfl, hb, (hf.block g (Array.getElem?_eq_some_iff.1 hgg).1 (hs g rfl)).trans hgg, rest⟩
theorem Own.grow {w w' : World} {B : Nat} {e : TypeId} {sz : Nat} {v : Value} {n : Nat} {cs : List Value} (h : Own w B e sz v n cs) (hf : Grow w w') : Own w' B e sz v n cs := h.fr (Fr.of_grow (S := fun _ => False) hf) fun _ _ => id
theorem Own.dr {w : World} {B : Nat} {e : TypeId} {sz : Nat} {v : Value} {n : Nat} {cs : List Value} (h : Own w B e sz v n cs) (m : Nat) : Own (dr w m) B e sz v n cs := h.grow ((Grow.refl w).dr m)
theorem Own.mono {w : World} {B B' : Nat} {e : TypeId} {sz : Nat} {v : Value} {n : Nat} {cs : List Value} (h : Own w B e sz v n cs) (hB : B' ≤ B) : Own w B' e sz v n cs := by
  refine ⟨h.1, ?_⟩
  rcases h.2 with hn | ⟨g, cap, cur, rfl, hb, rest⟩
  · exact .inl hn
  · exact .inr ⟨g, cap, cur, rfl, by omega, rest⟩
theorem Own.lt {w : World} {B : Nat} {e : TypeId} {sz : Nat} {v : Value} {n : Nat} {cs : List Value} (h : Own w B e sz v n cs) {k : Nat} (hk : v.ownBlock = some k) : B ≤ k ∧ k < w.heap.size := World.ownsRow.lt h k hk
theorem Own.one {w : World} {B : Nat} {e : TypeId} {sz : Nat} {v : Value} {n : Nat} {cs : List Value} (h : Own w B e sz v n cs) : oneV v := h.slC.one
/-- A slice literal. -/
theorem Own.lit {w w' : World} {B : Nat} {e : TypeId} {cs : Array Value} {n sz : Nat} (h : w' = w.alloc (.cells cs e)) (hB : B ≤ w.heap.size) (hn : n ≤ 9223372036854775807) (hs : cs.size = n * sz) :
    Own w' B e sz (.slice (some ⟨w.heap.size, 0, none⟩) n n) n cs.toList := by
  subst h
  exact World.ownsRow_lit w cs n hB (by simpa [maxLen] using hn) hs
/-- append onto a slice of the call's own. -/
theorem papp {P : Program} {t ty e : TypeId} {sz bytes : Nat} {z : Value} (hT : ElT P t e sz bytes z) (hsz : 0 < sz) {w : World} {B : Nat} {v x : Value} {n m : Nat} {xs news : List Value} (hown : Own w B e sz v n xs) (hx : SlC w x m news) (hm : news.length = m * sz) (h1 : ∀ u ∈ news, u.oneCell' = true)
    (hB : B ≤ w.heap.size) (hlen : (n + m) * bytes ≤ 140737488355328) (hb : 0 < bytes) {K : Value → World → Prop}
    (hk : ∀ v' w', Own w' B e sz v' (n + m) (xs ++ news) → Fr (fun k => some k = v.ownBlock) w w' → (v' = .slice none 0 0 → n + m = 0) → K v' w') : PApp P t ty v x w K := by
  obtain ⟨i, hi, hz, hsize, hby⟩ := hT.info
  obtain ⟨a, c, rfl, hmc, hc, hnone, hcells⟩ := hx.ex
  cases a with
  | none =>
    have hc0 := hnone rfl
    subst hc0
    have hm0 : m = 0 := by omega
    subst hm0
    have hnews : news = [] := by simpa using hm
    subst hnews
    refine ⟨v, w, run_append_owned_none (P := P) w B t ty e i sz hT.und hi v n xs hown, hk _ _ (by simpa using hown) (Fr.refl _ _) ?_⟩
    intro hv
    rcases hown.2 with ⟨_, h0⟩ | ⟨g, cap, cur, rfl, _⟩
    · simpa using h0
    · cases hv
  | some a =>
    have hnm : n + m ≤ maxLen := by
      simp only [maxLen]
      have : n + m ≤ (n + m) * bytes := Nat.le_mul_of_pos_right _ hb
      omega
    obtain ⟨v', w', hr, ho, hg, hnil⟩ := run_append_own (P := P) w B t ty e i z sz bytes hT.und hi hz hsize hby hT.zs hsz v n xs hown a m c news hm
      (fun j u hj => by obtain ⟨b, hb', hcc⟩ := hcells j u hj; cases hb'; exact hcc) h1 hnm hlen hB
    refine ⟨v', w', hr, hk v' w' ho (Fr.of_grown hg) ?_⟩
    intro hv
    have h2 := hnil.1 hv
    have hn0 : n = 0 := by
      rcases hown.2 with ⟨_, h0⟩ | ⟨g, cap, cur, rfl, _⟩
      · exact h0
      · cases h2.1
    omega
/-- append of one element. -/
theorem papp1 {P : Program} {t ty e : TypeId} {bytes : Nat} {z : Value} (hT : ElT P t e 1 bytes z) {w w1 : World} {B : Nat} {v u : Value} {n : Nat} {xs : List Value} (hw : w1 = w.alloc (.cells #[u] e)) (hown : Own w B e 1 v n xs) (hu : u.oneCell' = true)
    (hB : B ≤ w.heap.size) (hlen : (n + 1) * bytes ≤ 140737488355328) (hb : 0 < bytes) {K : Value → World → Prop}
    (hk : ∀ v' w', Own w' B e 1 v' (n + 1) (xs ++ [u]) → Fr (fun k => some k = v.ownBlock) w1 w' → v' ≠ .slice none 0 0 → K v' w') : PApp P t ty v (.slice (some ⟨w.heap.size, 0, none⟩) 1 1) w1 K := by
  have hl := Own.lit (B := w.heap.size) (n := 1) (sz := 1) hw (Nat.le_refl _) (by omega) (by simp)
  refine papp hT (by omega) (hown.grow (alloc_grow hw)) hl.slC (by simp) (by simpa using hu) (by rw [alloc_size hw]; omega) hlen hb ?_
  intro v' w' ho hf hn
  exact hk v' w' ho hf fun e => by have := hn e; omega

/-! ## nil -/
theorem nilEq {P : Program} {t e : TypeId} (ht : P.underlying t = some (.slice e)) {ox : Operand} {c : Value} {a : Option Addr} {n m : Nat} : PBinR P .eql t ox (.const c) (.slice a n m) (.slice none 0 0) a.isNone := by
  intro w
  have hg : eqGuard .eql t ox (.const c) (.slice a n m) (.slice none 0 0) = pure () := by simp [eqGuard_at_slice]
  simp only [hg, Sem.run_bind, Sem.run_pure, Result.andThen_ok]
  exact Lib.run_eql_slice_nil w t e a n m 0 0 ht
end Go.Proofs.Ytmjpnfapjcfejaa.VC

/- append of one element, and whether the result shares its array with what it was appended to: for functions that append to one slice again and again. No condition. -/
namespace Go.Proofs.Ytmjpnfapjcfejaa.VC
open Go Go.RowKit
set_option linter.unusedSimpArgs false
set_option linter.unusedVariables false

/-- v' came of v by append: in v's array, or in a new one. -/
def Kin (w w' : World) (v v' : Value) (n : Nat) : Prop :=
  (∃ g cap, v = .slice (some ⟨g, 0, none⟩) n cap ∧ v' = .slice (some ⟨g, 0, none⟩) (n + 1) cap) ∨ (∃ k, v'.ownBlock = some k ∧ w.heap.size ≤ k ∧ Grow w w')
theorem papp1k {P : Program} {t ty e : TypeId} {bytes : Nat} {z : Value} (hT : ElT P t e 1 bytes z) {w w1 : World} {B : Nat} {v u : Value} {n : Nat} {xs : List Value} (hw : w1 = w.alloc (.cells #[u] e)) (hown : Own w B e 1 v n xs) (hu : u.oneCell' = true)
    (hB : B ≤ w.heap.size) (hlen : (n + 1) * bytes ≤ 140737488355328) (hb : 0 < bytes) {K : Value → World → Prop}
    (hk : ∀ v' w', Own w' B e 1 v' (n + 1) (xs ++ [u]) → Fr (fun k => some k = v.ownBlock) w1 w' → Kin w1 w' v v' n → K v' w') : PApp P t ty v (.slice (some ⟨w.heap.size, 0, none⟩) 1 1) w1 K := by
  obtain ⟨i, hi, hz, hsize, hby⟩ := hT.info
  have hown1 := hown.grow (alloc_grow hw)
  have hB1 : B ≤ w1.heap.size := by rw [alloc_size hw]; omega
  have hn : ∀ j y, [u][j]? = some y → w1.cell? ((⟨w.heap.size, 0, none⟩ : Addr).add j) = some y := fun j y hj => by
    obtain ⟨hj1, hj2⟩ := List.getElem?_eq_some_iff.1 hj
    have hj0 : j = 0 := by simpa using hj1
    subst hj0
    simp at hj2
    subst hj2
    exact alloc_cell0 hw
  have h1 : ∀ y ∈ [u], y.oneCell' = true := fun y hy => by
    have : y = u := by simpa using hy
    rw [this]; exact hu
  have hnl : n + 1 ≤ (n + 1) * bytes := Nat.le_mul_of_pos_right _ hb
  have hnm : n + 1 ≤ maxLen := by simp only [maxLen]; omega
  obtain ⟨v', w', hr, ho, hg, hnil⟩ := run_append_own (P := P) w1 B t ty e i z 1 bytes hT.und hi hz hsize hby hT.zs (by omega) v n xs hown1 _ 1 1 [u] (by simp) hn h1 hnm hlen hB1
  refine ⟨v', w', hr, hk v' w' ho (Fr.of_grown hg) ?_⟩
  have fresh : ∀ (a : Nat) (o : Obj), v'.ownBlock = some w1.heap.size → w' = w1.drew.alloc o → Kin w1 w' v v' n := fun a o h1 h2 => by
    refine .inr ⟨_, h1, Nat.le_refl _, ?_⟩
    subst h2
    exact (Below.drew (Grow.refl w1)).alloc (Nat.le_refl _) _
  rcases hown1.2 with ⟨rfl, rfl⟩ | ⟨g, cap, cur, rfl, hbg, hgg, hnc, hcm, hcs, htake⟩
  · have hr2 := run_append_nil (P := P) w1 t ty e i z hT.und hi hz _ 1 1 [u] (by simp [hsize]) hn (by omega) (by omega) (by rw [hby]; omega)
    rw [hr] at hr2
    simp only [Result.ok.injEq] at hr2
    obtain ⟨rfl, rfl⟩ := hr2
    exact fresh 0 _ rfl rfl
  · by_cases hroom : n + 1 ≤ cap
    · have hfit : n * i.size + [u].length ≤ cur.size := by rw [hsize, hcs]; simp; omega
      have hr2 := run_append_room (P := P) w1 t ty e i hT.und hi g n cap cur hgg _ 1 1 [u] (by simp [hsize]) hn h1 hroom hfit
      rw [hr] at hr2
      simp only [Result.ok.injEq] at hr2
      obtain ⟨rfl, rfl⟩ := hr2
      exact .inl ⟨g, cap, rfl, rfl⟩
    · have holds : ∀ j y, xs[j]? = some y → w1.cell? ((⟨g, 0, none⟩ : Addr).add j) = some y := World.ownsRow.cells (g := g) hown1 rfl
      have hr2 := run_append_grow (P := P) w1 t ty e i z hT.und hi hz ⟨g, 0, none⟩ n cap xs (by rw [hsize]; exact hown1.1) holds _ 1 1 [u] (by simp [hsize]) hn (by omega) (by omega) (growslice_fits (by omega) (by rw [hby]; exact hlen))
      rw [hr] at hr2
      simp only [Result.ok.injEq] at hr2
      obtain ⟨rfl, rfl⟩ := hr2
      exact fresh 0 _ rfl rfl
/-- What was appended to reads as it did, once the result does. -/
theorem kin_back {S : Nat → Prop} {w w' w2 : World} {B : Nat} {e : TypeId} {v v' u : Value} {n : Nat} {xs : List Value} (hk : Kin w w' v v' n) (ho : Own w B e 1 v n xs) (ho2 : Own w2 B e 1 v' (n + 1) (xs ++ [u])) (hf : Fr S w' w2)
    (hs : ∀ k, S k → some k = v'.ownBlock ∨ v.ownBlock ≠ some k) : Own w2 B e 1 v n xs := by
  rcases hk with ⟨g, cap, rfl, rfl⟩ | ⟨k, hv', hk, hg⟩
  · refine ⟨ho.1, .inr ?_⟩
    rcases ho2.2 with ⟨h, _⟩ | ⟨g', cap', cur, he, hb, hgg, hnc, hcm, hcs, htake⟩
    · cases h
    · simp only [Value.slice.injEq, Option.some.injEq, Addr.mk.injEq, and_true, true_and] at he
      obtain ⟨rfl, rfl⟩ := he
      refine ⟨g, cap, cur, rfl, hb, hgg, by omega, hcm, hcs, ?_⟩
      have hl := ho.1
      have h3 := congrArg (List.take (n * 1)) htake
      rw [List.take_take] at h3
      have e1 : min (n * 1) ((n + 1) * 1) = n * 1 := by omega
      rw [e1] at h3
      rw [h3, ← hl]
      simp
  · refine (ho.grow hg).fr hf fun j hj hsj => ?_
    have hlt := (Own.lt ho hj).2
    rcases hs j hsj with h | h
    · rw [hv'] at h
      simp at h; omega
    · exact h hj
end Go.Proofs.Ytmjpnfapjcfejaa.VC

/- An array of the call's own that is written in place; make. No condition. -/
namespace Go.Proofs.Ytmjpnfapjcfejaa.VC
open Go Go.RowKit
set_option linter.unusedSimpArgs false
set_option linter.unusedVariables false

theorem Own.set {w w' : World} {B : Nat} {e : TypeId} {g n cap i : Nat} {cs : List Value} {u : Value} (h : Own w B e 1 (.slice (some ⟨g, 0, none⟩) n cap) n cs) (hi : i < n) (hw : w' = w.setCell ⟨g, i, none⟩ u) : Own w' B e 1 (.slice (some ⟨g, 0, none⟩) n cap) n (cs.set i u) := by
  subst hw
  refine ⟨by simpa using h.1, .inr ?_⟩
  rcases h.2 with ⟨h1, _⟩ | ⟨g', cap', cur, he, hb, hgg, hnc, hcm, hcs, htake⟩
  · cases h1
  · simp only [Value.slice.injEq, Option.some.injEq, Addr.mk.injEq, and_true, true_and] at he
    obtain ⟨rfl, rfl⟩ := he
    refine ⟨g, cap, cur.setIfInBounds i u, rfl, hb, ?_, hnc, hcm, by simpa using hcs, ?_⟩
    · simp [World.setCell, Array.getElem?_modify, hgg]
    · rw [Array.toList_setIfInBounds, List.take_set, htake]
theorem Own.wr {w : World} {B : Nat} {e : TypeId} {g n cap i : Nat} {cs : List Value} (h : Own w B e 1 (.slice (some ⟨g, 0, none⟩) n cap) n cs) (hi : i < n) : (∃ old, w.cell? ⟨g, i, none⟩ = some old) ∧ w.frozen? ⟨g, i, none⟩ = false := by
  rcases h.2 with ⟨h1, _⟩ | ⟨g', cap', cur, he, hb, hgg, hnc, hcm, hcs, htake⟩
  · cases h1
  · simp only [Value.slice.injEq, Option.some.injEq, Addr.mk.injEq, and_true, true_and] at he
    obtain ⟨rfl, rfl⟩ := he
    have hl : i < cur.size := by omega
    refine ⟨⟨cur[i], ?_⟩, ?_⟩
    · simp [World.cell?, hgg, hl]
    · simp [World.frozen?, hgg]
theorem made_toList (z : Value) (n : Nat) : (madeCells #[z] n).toList = List.replicate n z := by
  apply List.ext_getElem
  · simp [madeCells]
  · intro i h1 h2
    simp [madeCells, Nat.mod_one]
/-- make([]T, n). -/
theorem Own.made {w w' : World} {B : Nat} {e : TypeId} {n m : Nat} {z : Value} (hw : w' = w.alloc (.cells (madeCells #[z] m) e)) (hm : m = n) (hB : B ≤ w.heap.size) (hn : n ≤ 9223372036854775807) : Own w' B e 1 (.slice (some ⟨w.heap.size, 0, none⟩) n n) n (List.replicate n z) := by
  subst hm
  have := Own.lit (n := m) (sz := 1) hw hB hn (by simp [madeCells])
  rwa [made_toList] at this
end Go.Proofs.Ytmjpnfapjcfejaa.VC
