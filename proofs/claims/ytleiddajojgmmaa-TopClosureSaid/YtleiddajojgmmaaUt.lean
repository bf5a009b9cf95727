/- Contracts: rules.valid and what it calls, of rules without variables. No condition. -/
import Derived.Test.YtleiddajojgmmaaUs
namespace Go.Proofs.Ytleiddajojgmmaa
open Go Go.RowKit VC
set_option linter.unusedSimpArgs false
set_option linter.unusedVariables false

/-! ## The numbers of Args that are noted: 0 or 1 -/
def ArV (w : World) (g : Nat) : Prop := ∃ l : List Int, l.length = 6 ∧ (∀ x ∈ l, x = 0 ∨ x = 1) ∧ RecV w g (l.map fun x => Value.int .i64 x)
theorem ArV.new {w w' : World} {t : TypeId} (hw : w' = w.alloc (.cells #[.int .i64 0, .int .i64 0, .int .i64 0, .int .i64 0, .int .i64 0, .int .i64 0] t)) : ArV w' w.heap.size :=
  ⟨[0, 0, 0, 0, 0, 0], rfl, fun x hx => .inl (by simpa using hx), RecV.new hw⟩
theorem ArV.fr {S : Nat → Prop} {w w' : World} {g : Nat} (h : ArV w g) (hf : Fr S w w') (hs : ¬ S g) : ArV w' g := by
  obtain ⟨l, h1, h2, h3⟩ := h
  exact ⟨l, h1, h2, h3.fr hf hs⟩
theorem ArV.grow {w w' : World} {g : Nat} (h : ArV w g) (hf : Grow w w') : ArV w' g := h.fr (Fr.of_grow (S := fun _ => False) hf) id
theorem add_c {w : World} {g r : Nat} {n : Int} (h : ArV w g) (hr : r < 6) (hn : n = 1) : Calls Try.prog 65 #[.pointer (some ⟨g, 0, none⟩), .int .i64 (r : Int), .int .i64 n] w fun e w' => e = .returned (.bool true) ∧ ArV w' g ∧ Fr (fun i => i = g) w w' := by
  subst hn
  obtain ⟨l, hl, h01, hR⟩ := h
  have hrl : r < l.length := by omega
  have hc : w.cell? (Addr.add ⟨g, 0, none⟩ (Int.toNat (r : Int) * 1)) = some (.int .i64 l[r]) := by
    rw [Nat.mul_one, Int.toNat_natCast]
    exact hR.cell (by simp [hrl])
  have hfz : w.frozen? (Addr.add ⟨g, 0, none⟩ (Int.toNat (r : Int) * 1)) = false := hR.free _
  have hst : ∀ w6, w6 = w.setCell (Addr.add ⟨g, 0, none⟩ (Int.toNat (r : Int) * 1)) (.int .i64 1) → ArV w6 g ∧ Fr (fun i => i = g) w w6 := fun w6 hw6 => by
    refine ⟨⟨l.set r 1, by simp [hl], fun x hx => ?_, ?_⟩, RecV.set_fr hw6⟩
    · rcases List.mem_or_eq_of_mem_set hx with hx | hx
      · exact h01 x hx
      · exact .inr hx
    · rw [Nat.mul_one, Int.toNat_natCast] at hw6
      have := hR.set hw6
      rw [List.map_set]
      exact this
  have h0 : (0 : Int) ≤ (r : Int) ∧ (r : Int) < ((6 : Nat) : Int) := ⟨by omega, by omega⟩
  refine f65_calls _ _ _ (cF (decide_eq_false (by omega)) (cF (decide_eq_false (by omega)) (cF (decide_eq_false (by omega)) (cF (decide_eq_false (by omega)) ⟨⟨_, rfl⟩, h0, _, hc, ?_⟩))))
  rcases h01 _ (List.getElem_mem hrl) with e | e
  · exact cF (by rw [e]; rfl) ⟨⟨_, rfl⟩, h0, ⟨_, hc⟩, hfz, fun w6 h6 => ⟨rfl, hst w6 h6⟩⟩
  · exact cT (by rw [e]; rfl) ⟨⟨_, rfl⟩, h0, _, hc, cF (by rw [e]; rfl) ⟨⟨_, rfl⟩, h0, ⟨_, hc⟩, hfz, fun w6 h6 => ⟨rfl, hst w6 h6⟩⟩⟩
theorem isFact_c {w : World} {u : Value} {c r : Nat} (hu : SlI w u [(c : Int)]) (h1 : 1 ≤ c) (h6 : c ≤ 6) (hr : r < 6) : Calls Try.prog 64 #[.agg #[.int .i64 (r : Int), u]] w (Ret w (.bool true)) := by
  refine f64_calls _ ⟨_, rfl, fun w1 hw1 w3 hw3 => ?_⟩
  have g1 := alloc_grow hw1
  have g3 := alloc_grow hw3
  have z1 := alloc_size hw1
  have z3 := alloc_size hw3
  have hF := (RecV.new hw1).grow g3
  have hA : ArV w3 w1.heap.size := ArV.new hw3
  have hu3 := hu.grow (g1.trans g3)
  refine ⟨_, hF.cell (j := 0) rfl, _, hF.cell (j := 1) rfl, hu3.ln ((add_c hA hr (by simp)).mono ?_)⟩
  rintro e w9 ⟨rfl, hA9, f9⟩
  have hF9 := hF.fr f9 (by omega)
  have g9 : Grow w w9 := (g1.trans g3).fr f9 fun i hi e => by omega
  have hu9 := hu.grow g9
  refine ⟨_, rfl, cT rfl ⟨_, hF9.cell (j := 1) rfl, (minI_c hu9 (by simp)).mono ?_⟩⟩
  rintro e w13 ⟨m, rfl, hm, -, g13⟩
  obtain rfl : m = (c : Int) := by simpa using hm
  refine ⟨_, rfl, cT (decide_eq_true (by omega)) ⟨_, (hF9.grow g13).cell (j := 1) rfl, (maxI_c (hu9.grow g13) (by simp)).mono ?_⟩⟩
  rintro e w17 ⟨m, rfl, hm, -, g17⟩
  obtain rfl : m = (c : Int) := by simpa using hm
  exact ⟨_, rfl, by rw [decide_eq_true (by omega)], (g9.trans g13).trans g17⟩
/-! ## The atoms of a rule, read as they stood in an older world -/
abbrev OwnAt (w0 w : World) (B : Nat) (v : Value) (l : List (Int × List Int)) : Prop := OwnX (fun _ => True) 2 (fun _ cs a => repA w0 cs a) w B 41 v l
theorem elx_pin {T : Nat → Prop} {w w0 : World} {a : Int × List Int} {u out : Value} (hu : SlI w0 u a.2) : ElX T 2 (fun _ cs a => repA w0 cs a) out w ([.int .i64 a.1, u], a) := by
  refine ⟨rfl, ?_, fun w2 hf => ⟨u, rfl, hu⟩⟩
  intro y hy
  simp at hy
  rcases hy with rfl | rfl
  · rfl
  · exact hu.one.2
theorem atomsP_c {c : Nat} {w0 w : World} {uh bv : Value} {rh : Nat} {B : List Nat} (g0 : Grow w0 w) (huh : SlI w0 uh [-(c : Int)]) (hsl : SlX 3 (repLit c) w0 bv B) (hlen : B.length ≤ 1000) : Calls Try.prog 67 #[.agg #[.int .i64 (rh : Int), uh, bv]] w fun e w' => ∃ v, e = .returned v ∧ OwnAt w0 w' w.heap.size v (atomsN c (rh :: B)) ∧ Grow w w' := by
  refine f67_calls _ ⟨_, rfl, fun w1 hw1 => ?_⟩
  have g1 := alloc_grow hw1
  have hR := RecV.new hw1
  refine ⟨[.int .i64 (rh : Int), uh], rfl, fun j y hj => by
    rw [add_add]
    match j, hj with
    | 0, hj => exact hR.cell (j := 0) hj
    | 1, hj => exact hR.cell (j := 1) hj, bs1 el_atom (by omega) (by omega) (cs := #[.int .i64 (rh : Int), uh]) rfl w1 fun w4 hw4 => ?_⟩
  have g4 := alloc_grow hw4
  have z1 := alloc_size hw1
  have z4 := alloc_size hw4
  have g04 := g1.trans g4
  have hX0 : OwnAt w0 w4 w.heap.size (.slice (some ⟨w1.heap.size, 0, none⟩) 1 1) (atomsN c [rh]) := by
    refine ⟨[([.int .i64 (rh : Int), uh], ((rh : Int), [-(c : Int)]))], rfl, fun q hq => ?_, ?_⟩
    · obtain rfl : q = ([.int .i64 (rh : Int), uh], ((rh : Int), [-(c : Int)])) := by simpa using hq
      exact elx_pin (a := ((rh : Int), [-(c : Int)])) huh
    · exact Own.lit (B := w.heap.size) (n := 1) (sz := 2) hw4 (by omega) (by omega) (by simp)
  have sl4 := hsl.grow (repLit_mono c) (g0.trans g04)
  have hle := SlX.len_le sl4
  refine ⟨_, (hR.grow g4).cell (j := 2) rfl, SlX.ln sl4 ⟨fun out t w' => ∃ k : Nat, t = k ∧ k ≤ B.length ∧ OwnAt w0 w' w.heap.size out (atomsN c (rh :: B.take k)) ∧ Grow w w', fun _ t _ => B.length - t.toNat, ⟨0, rfl, by omega, by simpa using hX0, g04⟩, ?_⟩⟩
  rintro - out t w15 ⟨k, rfl, hk, hX, g15⟩
  refine condD (fun hlt => ?_) fun hge => ?_
  · have hkl : k < B.length := by omega
    refine SlX.rd (pinS hsl (g0.trans g15)) rfl hkl ?_
    rintro cs - ⟨u, rfl, hu⟩ w20 hw20
    refine RecV.init (cs := [.bool false, .int .i64 (B[k] : Int), u]) hw20 rfl (by
      intro y hy
      simp at hy
      rcases hy with rfl | rfl | rfl
      · rfl
      · rfl
      · exact hu.one.2) fun w21 g21 z21 h21 => ?_
    refine ⟨[.int .i64 (B[k] : Int), u], rfl, fun j y hj => by
      rw [add_add]
      match j, hj with
      | 0, hj => exact h21.cell (j := 1) hj
      | 1, hj => exact h21.cell (j := 2) hj, bs1 el_atom (by omega) (by omega) (cs := #[.int .i64 (B[k] : Int), u]) rfl w21 fun w24 hw24 => ?_⟩
    have g24 := alloc_grow hw24
    have z15 := g15.size
    refine pappX1 el_atom (by omega) (cs := [.int .i64 (B[k] : Int), u]) (y := ((B[k] : Int), [-(c : Int)])) (hX.grow g21) hw24 (elx_pin (a := ((B[k] : Int), [-(c : Int)])) hu) (by have := g21.size; omega) (by simp [atomsN]; omega) (by omega) ?_
    intro v2 w27 ho2 hf2 _ _
    refine ⟨by unfold inR; omega, ⟨k + 1, by omega, by omega, ?_, ((g15.trans g21).trans g24).fr hf2 fun i hi e => by have := (hX.lt e.symm).1; omega⟩, by first | omega | (dsimp only; omega)⟩
    have e : atomsN c (rh :: B.take (k + 1)) = atomsN c (rh :: B.take k) ++ [((B[k] : Int), [-(c : Int)])] := by
      unfold atomsN
      rw [List.take_succ_eq_append_getElem hkl, List.map_cons, List.map_cons, List.map_append]
      rfl
    rw [e]
    exact ho2
  · have hkn : k = B.length := by omega
    subst hkn
    rw [List.take_length] at hX
    exact ⟨out, rfl, hX, g15⟩
theorem atomsN_len (c : Nat) (l : List Nat) : (atomsN c l).length = l.length := by simp [atomsN]
theorem atomsN_get {c : Nat} {l : List Nat} {i : Nat} (h : i < l.length) : (atomsN c l)[i]'(by rw [atomsN_len]; exact h) = (((l[i] : Nat) : Int), [-(c : Int)]) := by simp [atomsN]
/-! ## safe -/
theorem map_ib : Try.prog.underlying 148 = some (.map 3 4) := by kernel_rfl
/-- A map from ints to truth values. -/
def MapTB (w : World) (b : Nat) : Prop := ∃ kv, MapI w b kv ∧ ∀ k v, getM kv k = some v → ∃ x : Bool, v = .bool x
theorem MapTB.fr {S : Nat → Prop} {w w' : World} {b : Nat} (h : MapTB w b) (hf : Fr S w w') (hs : ¬ S b) : MapTB w' b := by
  obtain ⟨kv, h1, h2⟩ := h
  exact ⟨kv, h1.fr hf hs, h2⟩
theorem MapTB.grow {w w' : World} {b : Nat} (h : MapTB w b) (hf : Grow w w') : MapTB w' b := h.fr (Fr.of_grow (S := fun _ => False) hf) id
theorem MapTB.look {w : World} {b : Nat} (h : MapTB w b) (k : Int) : ∃ x : Bool, (Instr.lookup 148 (.map (some b)) (.int .i64 k) false).run Try.prog w = .ok (.bool x) w := by
  obtain ⟨kv, h1, h2⟩ := h
  have := MapI.get map_ib map_rel.2.1 map_und.2.1 map_und.2.2 h1 k false
  cases hg : getM kv k with
  | none => rw [hg] at this; exact ⟨false, this⟩
  | some v =>
    obtain ⟨x, rfl⟩ := h2 k v hg
    rw [hg] at this
    exact ⟨x, this⟩
theorem MapTB.put {w : World} {b : Nat} (h : MapTB w b) (k : Int) (x : Bool) : ∃ w', (Instr.mapUpdate 148 (.map (some b)) (.int .i64 k) (.bool x)).run Try.prog w = .ok () w' ∧ MapTB w' b ∧ Fr (fun q => q = b) w w' := by
  obtain ⟨kv, h1, h2⟩ := h
  obtain ⟨w', hr, hm, hf⟩ := MapI.set map_ib map_rel.2.1 h1 k (.bool x)
  refine ⟨w', hr, ⟨_, hm, fun j v hj => ?_⟩, hf⟩
  rw [getM_upd] at hj
  split at hj
  · cases hj; exact ⟨x, rfl⟩
  · exact h2 j v hj
theorem safe_c {c : Nat} (hc : 1 ≤ c) {w : World} {uh bv : Value} {rh : Nat} {B : List Nat} (huh : SlI w uh [-(c : Int)]) (hsl : SlX 3 (repLit c) w bv B) (hlen : B.length ≤ 1000) : Calls Try.prog 66 #[.agg #[.int .i64 (rh : Int), uh, bv]] w (Ret w (.bool true)) := by
  refine f66_calls _ ⟨_, rfl, fun w1 hw1 => ?_⟩
  have g1 := alloc_grow hw1
  have z1 := alloc_size hw1
  have hR := RecV.new hw1
  refine MapI.make _ _ fun w3 hw3 hm3 g3 z3 => ?_
  have mb3 : MapTB w3 w1.heap.size := ⟨[], hm3, fun k v h => by cases h⟩
  obtain ⟨M, eM⟩ : ∃ M, M = w1.heap.size := ⟨_, rfl⟩
  rw [← eM] at mb3 ⊢
  have g03 := g1.trans g3
  have hR3 := hR.grow g3
  have sl3 := hsl.grow (repLit_mono c) g03
  have hle := SlX.len_le hsl
  refine ⟨_, hR3.cell (j := 2) rfl, SlX.ln sl3 ⟨fun t w' => ∃ k : Nat, t = k ∧ k ≤ B.length ∧ MapTB w' M ∧ Fr (fun i => i = M) w3 w', fun t _ => B.length - t.toNat, ⟨0, rfl, by omega, mb3, Fr.refl _ _⟩, ?_⟩⟩
  rintro - t w13 ⟨k, rfl, hk, hm, f13⟩
  have g013 : Grow w w13 := g03.fr f13 fun i hi e => by omega
  refine condD (fun hlt => ?_) fun hge => ?_
  · have hkl : k < B.length := by omega
    refine SlX.rd (pinS hsl g013) rfl hkl ?_
    rintro cs - ⟨u, rfl, hu⟩ w18 hw18
    refine RecV.init (cs := [.bool false, .int .i64 (B[k] : Int), u]) hw18 rfl (by
      intro y hy
      simp at hy
      rcases hy with rfl | rfl | rfl
      · rfl
      · rfl
      · exact hu.one.2) fun w19 g19 z19 h19 => ?_
    have g019 := g013.trans g19
    have hm19 : MapTB w19 M := hm.grow g19
    have z13 := f13.size
    refine ⟨_, by rw [add_add]; exact h19.cell (j := 2) rfl, (hu.grow g019).ln ⟨fun t w' => (t = 0 ∨ t = 1) ∧ MapTB w' M ∧ Fr (fun i => i = M) w19 w', fun t _ => 1 - t.toNat, ⟨.inl rfl, hm19, Fr.refl _ _⟩, ?_⟩⟩
    rintro - t w29 ⟨ht, hm29, f29⟩
    have g029 : Grow w w29 := g019.fr f29 fun i hi e => by omega
    rcases ht with rfl | rfl
    · refine condD (fun _ => ?_) fun hge => absurd hge (by simp)
      refine (hu.grow g029).rd (i := 0) rfl (by simp) ?_
      simp only [List.getElem_cons_zero]
      obtain ⟨x, hx⟩ := hm29.look (-(c : Int))
      refine ⟨x, _, hx, condP_i (fun h => ?_) fun h => ?_⟩
      · obtain ⟨w36, hr, hm36, f36⟩ := hm29.put (-(c : Int)) true
        exact ⟨w36, hr, by unfold inR; omega, ⟨.inr rfl, hm36, f29.trans f36⟩, by decide⟩
      · obtain ⟨w38, hr, hm38, f38⟩ := hm29.put (-(c : Int)) (!false)
        exact ⟨false, (h19.fr f29 (by omega)).cell (j := 0) rfl, w38, hr, by unfold inR; omega, ⟨.inr rfl, hm38, f29.trans f38⟩, by decide⟩
    · exact condD (fun hlt => absurd hlt (by simp)) fun _ => ⟨by unfold inR; omega, ⟨k + 1, by omega, by omega, hm29, (f13.trans (Fr.of_grow g19)).trans f29⟩, by first | omega | (dsimp only; omega)⟩
  · refine ⟨[.int .i64 (rh : Int), uh, bv], rfl, (hR3.fr f13 (by omega)).all, (atomsP_c g013 huh hsl hlen).mono ?_⟩
    rintro e w40 ⟨v, rfl, hat, g40⟩
    have hla := atomsN_len c (rh :: B)
    rw [List.length_cons] at hla
    refine ⟨_, rfl, SlX.ln (OwnX.slX hat) ⟨fun t w' => ∃ k : Nat, t = k ∧ k ≤ (atomsN c (rh :: B)).length ∧ Grow w40 w', fun t _ => (atomsN c (rh :: B)).length - t.toNat, ⟨0, rfl, by omega, Grow.refl _⟩, ?_⟩⟩
    rintro - t w50 ⟨k, rfl, hk, g50⟩
    have g050 := (g013.trans g40).trans g50
    refine condD (fun hlt => ?_) fun hge => ?_
    · have hkl : k < (atomsN c (rh :: B)).length := by omega
      have hkr : k < (rh :: B).length := by rw [List.length_cons]; omega
      refine SlX.rd (OwnX.slX (OwnX.grow hat g50)) rfl hkl ?_
      rintro cs - ⟨u, rfl, hu⟩ w55 hw55
      rw [atomsN_get hkr] at hu ⊢
      dsimp only at hu
      refine RecV.init (cs := [.int .i64 (((rh :: B)[k] : Nat) : Int), u]) hw55 rfl (by
        intro y hy
        simp at hy
        rcases hy with rfl | rfl
        · rfl
        · exact hu.one.2) fun w56 g56 z56 h56 => ?_
      have hu56 := hu.grow (g050.trans g56)
      refine ⟨_, h56.cell (j := 1) rfl, hu56.ln ⟨fun t w' => (t = 0 ∨ t = 1) ∧ w' = w56, fun t _ => 1 - t.toNat, ⟨.inl rfl, rfl⟩, ?_⟩⟩
      rintro - t w66 ⟨ht, rfl⟩
      rcases ht with rfl | rfl
      · refine condD (fun _ => ?_) fun hge => absurd hge (by simp)
        refine hu56.rd (i := 0) rfl (by simp) ?_
        simp only [List.getElem_cons_zero]
        exact cF (decide_eq_false (by omega)) ⟨by unfold inR; omega, ⟨.inr rfl, by trivial⟩, by decide⟩
      · exact condD (fun hlt => absurd hlt (by simp)) fun _ => ⟨by unfold inR; omega, ⟨k + 1, by omega, by omega, g50.trans g56⟩, by first | omega | (dsimp only; omega)⟩
    · exact ⟨rfl, g050⟩
/-! ## valid -/
/-- Rules with Rels below 6, and at most three atoms each, at most ten. -/
structure OkR (RL : List (Nat × List Nat)) : Prop where
  len : RL.length ≤ 10
  lt : ∀ r ∈ RL, r.1 < 6 ∧ r.2.length ≤ 3 ∧ ∀ b ∈ r.2, b < 6
theorem validRu_c {c : Nat} (h1 : 1 ≤ c) (h6 : c ≤ 6) {w : World} {lv fv : Value} {RL : List (Nat × List Nat)} {l : List Nat} (hl : SlX 3 (repRule c) w lv RL) (hf : SlA w fv (factsN c l)) (hR : OkR RL) (h20 : l.length ≤ 20) (hr : ∀ r ∈ l, r < 6) : Calls Try.prog 36 #[lv, fv] w (Ret w (.bool true)) := by
  refine f36_calls _ _ fun w1 hw1 => ?_
  have g1 := alloc_grow hw1
  have z1 := alloc_size hw1
  have hA : ArV w1 w.heap.size := ArV.new hw1
  obtain ⟨N, eN⟩ : ∃ N, N = w.heap.size := ⟨_, rfl⟩
  rw [← eN] at hA ⊢
  have hll : (factsN c l).length = l.length := by simp [factsN]
  have hl1 := hl.grow (repRule_mono c) g1
  have hf1 := hf.gr g1
  have hle := SlX.len_le hl
  have h10 := hR.len
  refine SlX.ln hl1 (cF (decide_eq_false (by omega)) (SlX.ln hf1 (cF (decide_eq_false (by omega)) (SlX.ln hf1 ⟨fun t w' => ∃ k : Nat, t = k ∧ k ≤ l.length ∧ ArV w' N ∧ Fr (fun i => i = N) w1 w', fun t _ => l.length - t.toNat, ⟨0, rfl, by omega, hA, Fr.refl _ _⟩, ?_⟩))))
  rintro - t w15 ⟨k, rfl, hk, hA15, f15⟩
  have g015 : Grow w w15 := g1.fr f15 fun i hi e => by omega
  have z15 := f15.size
  refine condD (fun hlt => ?_) fun hge => ?_
  · have hkl : k < l.length := by omega
    have hkf : k < (factsN c l).length := by omega
    have ek : (factsN c l)[k] = (((l[k] : Nat) : Int), [(c : Int)]) := by simp [factsN]
    have hk6 := hr _ (List.getElem_mem hkl)
    refine SlX.rd (pinS hf g015) rfl hkf ?_
    rintro cs - ⟨u, rfl, hu⟩ w20 hw20
    rw [ek] at hu ⊢
    dsimp only at hu
    refine RecV.init (cs := [.int .i64 ((l[k] : Nat) : Int), u]) hw20 rfl (by
      intro y hy
      simp at hy
      rcases hy with rfl | rfl
      · rfl
      · exact hu.one.2) fun w21 g21 z21 h21 => ?_
    have g021 := g015.trans g21
    refine ⟨[.int .i64 ((l[k] : Nat) : Int), u], rfl, h21.all, (isFact_c (hu.grow g021) h1 h6 hk6).mono ?_⟩
    rintro e w24 ⟨rfl, g24⟩
    have h24 := h21.grow g24
    refine ⟨_, rfl, cF rfl ⟨_, h24.cell (j := 0) rfl, _, h24.cell (j := 1) rfl, (hu.grow (g021.trans g24)).ln ((add_c (hA15.grow (g21.trans g24)) hk6 (by simp)).mono ?_)⟩⟩
    rintro e w32 ⟨rfl, hA32, f32⟩
    exact ⟨_, rfl, cF rfl ⟨by unfold inR; omega, ⟨k + 1, by omega, by omega, hA32, (f15.trans (Fr.of_grow (g21.trans g24))).trans f32⟩, by first | omega | (dsimp only; omega)⟩⟩
  · refine SlX.ln (hl.grow (repRule_mono c) g015) ⟨fun t w' => ∃ k : Nat, t = k ∧ k ≤ RL.length ∧ ArV w' N ∧ Fr (fun i => i = N) w1 w', fun t _ => RL.length - t.toNat, ⟨0, rfl, by omega, hA15, f15⟩, ?_⟩
    clear hA15 g015 f15 z15 hge
    rintro - t w42 ⟨j, rfl, hj, hA42, f42⟩
    have g042 : Grow w w42 := g1.fr f42 fun i hi e => by omega
    have z42 := f42.size
    refine condD (fun hlt2 => ?_) fun hge2 => ⟨rfl, g042⟩
    have hjl : j < RL.length := by omega
    obtain ⟨hr1, hr3, hrb⟩ := hR.lt _ (List.getElem_mem hjl)
    refine SlX.rd (pinS hl g042) rfl hjl ?_
    rintro cs - ⟨uh, bv, rfl, huh, hbv⟩ w47 hw47
    refine RecV.init (cs := [.int .i64 (RL[j].1 : Int), uh, bv]) hw47 rfl (by
      intro y hy
      simp at hy
      rcases hy with rfl | rfl | rfl
      · rfl
      · exact huh.one.2
      · exact hbv.one.2) fun w48 g48 z48 h48 => ?_
    have g048 := g042.trans g48
    have hb48 := hbv.grow (repLit_mono c) g048
    refine ⟨_, h48.cell (j := 2) rfl, SlX.ln hb48 (cF (decide_eq_false (by omega)) ⟨[.int .i64 (RL[j].1 : Int), uh, bv], rfl, h48.all, (safe_c h1 (huh.grow g048) hb48 (by omega)).mono ?_⟩)⟩
    rintro e w55 ⟨rfl, g55⟩
    have g055 := g048.trans g55
    refine ⟨_, rfl, cF rfl ⟨[.int .i64 (RL[j].1 : Int), uh, bv], rfl, (h48.grow g55).all, (atomsP_c g055 huh hbv (by omega)).mono ?_⟩⟩
    rintro e w59 ⟨v, rfl, hat, g59⟩
    have g4259 := (g48.trans g55).trans g59
    have g059 := g042.trans g4259
    have hA59 := hA42.grow g4259
    have f59 : Fr (fun i => i = N) w1 w59 := f42.trans (Fr.of_grow g4259)
    have z59 := g4259.size
    have z55 := (g48.trans g55).size
    have hla := atomsN_len c (RL[j].1 :: RL[j].2)
    rw [List.length_cons] at hla
    refine ⟨_, rfl, SlX.ln (OwnX.slX hat) ⟨fun t w' => ∃ i : Nat, t = i ∧ i ≤ (atomsN c (RL[j].1 :: RL[j].2)).length ∧ ArV w' N ∧ Fr (fun i => i = N) w59 w', fun t _ => (atomsN c (RL[j].1 :: RL[j].2)).length - t.toNat, ⟨0, rfl, by omega, hA59, Fr.refl _ _⟩, ?_⟩⟩
    rintro - t w69 ⟨i, rfl, hi, hA69, f69⟩
    have g069 : Grow w w69 := g059.fr f69 fun i hi e => by omega
    have z69 := f69.size
    refine condD (fun hlt3 => ?_) fun hge3 => ?_
    · have hil : i < (atomsN c (RL[j].1 :: RL[j].2)).length := by omega
      have hir : i < (RL[j].1 :: RL[j].2).length := by rw [List.length_cons]; omega
      have hX69 := OwnX.fr hat f69 (fun b hb => trivial) fun b hb e => by have := (OwnX.lt hat hb).1; omega
      obtain ⟨b, eb⟩ : ∃ b, b = (RL[j].1 :: RL[j].2)[i] := ⟨_, rfl⟩
      have hb6 : b < 6 := by
        have hm : b ∈ RL[j].1 :: RL[j].2 := by rw [eb]; exact List.getElem_mem hir
        rcases List.mem_cons.1 hm with e | e
        · omega
        · exact hrb _ e
      refine SlX.rd (OwnX.slX hX69) rfl hil ?_
      rintro cs - ⟨u, rfl, hu⟩ w74 hw74
      rw [atomsN_get hir, ← eb] at hu ⊢
      dsimp only at hu
      refine RecV.init (cs := [.int .i64 (b : Int), u]) hw74 rfl (by
        intro y hy
        simp at hy
        rcases hy with rfl | rfl
        · rfl
        · exact hu.one.2) fun w75 g75 z75 h75 => ?_
      have g075 := g069.trans g75
      refine ⟨_, h75.cell (j := 0) rfl, _, h75.cell (j := 1) rfl, (hu.grow g075).ln ((add_c (hA69.grow g75) hb6 (by simp)).mono ?_)⟩
      rintro e w82 ⟨rfl, hA82, f82⟩
      have h82 := h75.fr f82 (by omega)
      have g082 : Grow w w82 := g075.fr f82 fun i hi e => by omega
      refine ⟨_, rfl, cF rfl ⟨_, h82.cell (j := 1) rfl, (minI_c (hu.grow g082) (by simp)).mono ?_⟩⟩
      rintro e w86 ⟨m, rfl, hm, -, g86⟩
      obtain rfl : m = -(c : Int) := by simpa using hm
      refine ⟨_, rfl, cF (decide_eq_false (by omega)) ⟨_, (h82.grow g86).cell (j := 1) rfl, (maxI_c (hu.grow (g082.trans g86)) (by simp)).mono ?_⟩⟩
      rintro e w90 ⟨m, rfl, hm, -, g90⟩
      obtain rfl : m = -(c : Int) := by simpa using hm
      exact ⟨_, rfl, cF (decide_eq_false (by omega)) ⟨by unfold inR; omega, ⟨i + 1, by omega, by omega, (hA82.grow g86).grow g90, ((f69.trans (Fr.of_grow g75)).trans f82).trans (Fr.of_grow (g86.trans g90))⟩, by first | omega | (dsimp only; omega)⟩⟩
    · exact ⟨by unfold inR; omega, ⟨j + 1, by omega, by omega, hA69, f59.trans f69⟩, by first | omega | (dsimp only; omega)⟩
end Go.Proofs.Ytleiddajojgmmaa
