/- Contracts: the reference's Part, chosen, Core. No condition. -/
import Derived.Test.YtjkphmbjdleppaaGreatNg
import Derived.Test.YtjkphmbjdleppaaGreatNj
import Derived.Test.YtjkphmbjdleppaaGreatNl
namespace Go.Proofs.YtjkphmbjdleppaaGreat
open Go Go.RowKit VC
set_option linter.unusedSimpArgs false
set_option linter.unusedVariables false

theorem el_ratom : ElT Tryz.prog 23 50 2 32 (.agg #[.int .i64 0, .slice none 0 0]) := ⟨by kernel_rfl, ⟨Tryz.t50, by kernel_rfl, by kernel_rfl, by kernel_rfl, by kernel_rfl⟩, rfl⟩
theorem refPart_c {w : World} {hv bv lv : Value} {h : List Int} {b : List Atm} {L : List Nat} (sh : SlI w hv h) (sb : SlA w bv b) (sl : SlI w lv (intL L)) (hL : ∀ i ∈ L, i < b.length) (hLl : L.length ≤ 1000000) :
    Calls Tryz.prog 30 #[.agg #[hv, bv], lv] w fun e w' => ∃ bv', e = .returned (.agg #[hv, bv']) ∧ SlA w' bv' (partN b L) ∧ Grow w w' := by
  refine f30_calls _ _ ?_
  refine ⟨_, rfl, fun w1 hw1 w3 hw3 => ?_⟩
  have g1 := alloc_grow hw1
  have g3 := alloc_grow hw3
  have s1 := alloc_size hw1
  have s3 := alloc_size hw3
  have g05 := g1.trans g3
  have p0 := g3.cell (boxc hw1 0 hv rfl)
  have p1 := g3.cell (boxc hw1 1 bv rfl)
  have hR := RecV.new hw3
  refine ⟨hv, p0, sh.one, fun w8 hw8 => RecV.init (cs := [hv, .slice none 0 0]) hw8 rfl (by
    intro y hy
    simp at hy
    rcases hy with rfl | rfl
    · exact sh.one.2
    · rfl) fun w9 g9 s9 hC => (sl.grow (g05.trans g9)).ln ?_⟩
  rw [intL_len]
  refine ⟨fun t w' => ∃ (k : Nat) (av : Value), t = k ∧ k ≤ L.length ∧ RecV w' w3.heap.size [hv, av] ∧ OwnX (fun x => w.heap.size ≤ x) 2 repA w' w9.heap.size 50 av (partN b (L.take k)) ∧ Fr (fun i => i = w3.heap.size ∨ w9.heap.size ≤ i) w9 w', fun t _ => L.length - t.toNat,
    ⟨0, _, rfl, by omega, hC, OwnX.nil _ _ _, Fr.refl _ _⟩, ?_⟩
  rintro - t w18 ⟨k, av, rfl, hk, hrc, hoA, hf⟩
  have g518 : Grow w3 w18 := g9.fr hf fun i hi e => by omega
  have g018 := g05.trans g518
  refine condD (fun hlt => ?_) (fun hge => ?_)
  · have hkl : k < L.length := by omega
    have hki : k < (intL L).length := by rw [intL_len]; exact hkl
    have hx := hL _ (List.getElem_mem hkl)
    have eX : (intL L)[k] = ((L[k] : Nat) : Int) := by simp [intL]
    refine (sl.grow g018).rd rfl hki ?_
    rw [eX]
    intro m
    obtain ⟨wd, ewd⟩ : ∃ wd, wd = dr w18 m := ⟨_, rfl⟩
    have gd : Grow w18 wd := by rw [ewd]; exact (Grow.refl w18).dr m
    rw [← ewd]
    have g0d := g018.trans gd
    have hrd := hrc.grow gd
    have hod := hoA.grow gd
    have hav : ∀ x, av.ownBlock = some x → w9.heap.size ≤ x ∧ x < w18.heap.size := fun x hx => hoA.lt hx
    obtain ⟨a', n', c', e, hb, cs, hl, hcs, u, rfl, hu⟩ := SlX.rd (pinX sb g0d) (j := ((L[k] : Nat) : Int)) rfl hx (K := fun cs => ∃ u, cs = [.int .i64 b[L[k]].1, u] ∧ SlI w u b[L[k]].2) fun cs _ hr => hr
    have bx := (g518.trans gd).cell p1
    have hs18 := gd.size
    have hs9 := hf.size
    have eP : partN b (L.take (k + 1)) = partN b (L.take k) ++ [b[L[k]]] := by
      rw [List.take_succ_eq_append_getElem hkl, partN_app]
      simp [partN, List.getD, hx]
    have leaf : ∀ {w40 : World}, w40 = wd.alloc (.cells #[.int .i64 b[L[k]].1, u] 50) → PApp Tryz.prog 23 23 av (.slice (some ⟨wd.heap.size, 0, none⟩) 1 1) w40 fun t w45 => oneV t ∧ (∃ old, w45.cell? (Addr.add ⟨w3.heap.size, 0, none⟩ 1) = some old) ∧ w45.frozen? (Addr.add ⟨w3.heap.size, 0, none⟩ 1) = false ∧ ∀ w46, w46 = w45.setCell (Addr.add ⟨w3.heap.size, 0, none⟩ 1) t →
        inR ((k : Int) + 1) ∧ ((∃ (k' : Nat) (av : Value), (k : Int) + 1 = k' ∧ k' ≤ L.length ∧ RecV w46 w3.heap.size [hv, av] ∧ OwnX (fun x => w.heap.size ≤ x) 2 repA w46 w9.heap.size 50 av (partN b (L.take k')) ∧ Fr (fun i => i = w3.heap.size ∨ w9.heap.size ≤ i) w9 w46) ∧ L.length - Int.toNat ((k : Int) + 1) < L.length - Int.toNat (k : Int)) := fun {w40} hw40 => by
      have g40 := alloc_grow hw40
      have h05 := g05.size
      refine pappX1 el_ratom (by omega) (cs := [.int .i64 b[L[k]].1, u]) (y := b[L[k]]) hod hw40 ⟨rfl, fun y hy => by
        simp at hy
        rcases hy with rfl | rfl
        · rfl
        · exact hu.one.2, fun w2 hfr => ⟨u, rfl, hu.grow (g0d.fr hfr fun i hi e => by
          rcases e with e | e
          · omega
          · have := (hav i e.symm).1
            omega)⟩⟩ (by omega) (by rw [partN, List.length_map, List.length_take]; omega) (by omega) ?_
      intro v2 w45 ho2 hf2 _ _
      have hr45 : RecV w45 w3.heap.size [hv, av] := (hrd.grow g40).fr hf2 fun e => by have := (hav _ e.symm).1; omega
      refine ⟨OwnX.one ho2, ⟨_, hr45.cell (j := 1) rfl⟩, hr45.free 1, fun w46 hw46 => ⟨by unfold inR; omega, ⟨k + 1, v2, by omega, by omega, hr45.set hw46, ?_, ?_⟩, by omega⟩⟩
      · rw [eP]
        exact OwnX.fr ho2 (RecV.set_fr hw46) (fun x hx => by rw [hx]; exact h05) (fun x hx e => by have := (ho2.lt hx).1; omega)
      · exact (hf.trans (Fr.of_grow gd)).trans ((Fr.of_grow g40).trans ((hf2.mono fun x _ e => .inr (hav x e.symm).1).trans ((RecV.set_fr hw46).mono fun x _ e => .inl e)))
    refine ⟨⟨av, hrd.cell (j := 1) rfl, bv, bx, a', n', c', e, hb, [_, _], rfl, hcs, bs1 el_ratom (by omega) (by omega) (cs := #[.int .i64 b[L[k]].1, u]) rfl wd fun w40 hw40 => leaf hw40⟩, bv, bx, a', n', c', e, hb, ⟨av, hrd.cell (j := 1) rfl, [_, _], rfl, hcs, bs1 el_ratom (by omega) (by omega) (cs := #[.int .i64 b[L[k]].1, u]) rfl wd fun w40 hw40 => leaf hw40⟩, [_, _], rfl, hcs, ⟨av, hrd.cell (j := 1) rfl, bs1 el_ratom (by omega) (by omega) (cs := #[.int .i64 b[L[k]].1, u]) rfl wd fun w40 hw40 => leaf hw40⟩, bs1 el_ratom (by omega) (by omega) (cs := #[.int .i64 b[L[k]].1, u]) rfl wd fun w40 hw40 => ⟨av, (hrd.grow (alloc_grow hw40)).cell (j := 1) rfl, leaf hw40⟩⟩
  · have hkl : k = L.length := by omega
    subst hkl
    rw [List.take_length] at hoA
    have hR18 : RecV w18 w1.heap.size [.slice none 0 0, .slice none 0 0] := hR.grow g518
    have h05 := g05.size
    refine ⟨[_, _], rfl, hrc.all, RecV.store (cs := [hv, av]) hR18 rfl (by
      intro y hy
      simp at hy
      rcases hy with rfl | rfl
      · exact sh.one.2
      · exact (OwnX.one hoA).2) fun w72 hf72 hr72 => ⟨[_, _], rfl, hr72.all, av, rfl, ?_, ?_⟩⟩
    · exact OwnX.slX (OwnX.fr hoA hf72 (fun x hx => by omega) (fun x hx e => by have := (hoA.lt hx).1; omega))
    · exact g018.fr hf72 fun i hi e => by omega
theorem flat_le {α β : Type} {f : α → List β} {c : Nat} : ∀ {l : List α}, (∀ x ∈ l, (f x).length ≤ c) → (l.flatMap f).length ≤ l.length * c
  | [], _ => by simp
  | x :: r, h => by
    have h1 := flat_le (l := r) fun y hy => h y (List.mem_cons_of_mem _ hy)
    have h2 := h x (List.mem_cons_self ..)
    rw [List.flatMap_cons, List.length_append, List.length_cons, Nat.succ_mul]
    omega
theorem chosen_len {b : Nat} (hb : b ≤ 5) : ∀ (k a : Nat), (chosenL b k a).length ≤ 6 ^ k
  | 0, a => by simp [chosenL]
  | k + 1, a => by
    rw [chosenL]
    have h1 : (((List.range (b - a)).map fun i => a + i).flatMap fun x => (chosenL b k (x + 1)).map (x :: ·)).length ≤ ((List.range (b - a)).map fun i => a + i).length * 6 ^ k := flat_le fun x _ => by rw [List.length_map]; exact chosen_len hb k (x + 1)
    have h2 : ((List.range (b - a)).map fun i => a + i).length ≤ 6 := by simp; omega
    have h3 := Nat.mul_le_mul_right (6 ^ k) h2
    rw [Nat.pow_succ, Nat.mul_comm]
    omega
def partC (b k a i : Nat) : List (List Nat) := ((List.range i).map fun i => a + i).flatMap fun x => (chosenL b k (x + 1)).map (x :: ·)
theorem partC_succ (b k a i : Nat) : partC b k a (i + 1) = partC b k a i ++ (chosenL b k (a + i + 1)).map ((a + i) :: ·) := by
  unfold partC
  rw [List.range_succ, List.map_append, List.flatMap_append]
  simp
theorem chosen_c {b : Nat} (hb : b ≤ 5) : ∀ (k a : Nat) (w : World), a ≤ b + 1 → k ≤ 5 → Calls Tryz.prog 29 #[.int .i64 (a : Int), .int .i64 (b : Int), .int .i64 (k : Int)] w fun e w' => ∃ v, e = .returned v ∧ OwnRs w.heap.size w' v ((chosenL b k a).map intL) ∧ Grow w w'
  | 0, a, w => fun ha hk => by
    refine f29_calls _ _ _ ?_
    refine cT rfl ⟨(SlI.nil w).one, fun w1 hw1 => ⟨_, rfl, ?_, alloc_grow hw1⟩⟩
    have hl := Own.lit (B := w.heap.size) (n := 1) (sz := 1) hw1 (Nat.le_refl _) (by omega) (by simp)
    exact ⟨[([.slice none 0 0], [])], rfl, fun p hp => by
      obtain rfl : p = ([.slice none 0 0], []) := by simpa using hp
      exact ⟨rfl, fun y hy => by
        obtain rfl : y = .slice none 0 0 := by simpa using hy
        exact (SlI.nil w).one.2, fun w2 _ => ⟨_, rfl, SlI.nil w2⟩⟩, by simpa [chosenL] using hl⟩
  | k + 1, a, w => fun ha hk => by
    refine f29_calls _ _ _ ?_
    refine cF (decide_eq_false (by omega)) ?_
    have hpl : ∀ i, i ≤ 5 → (partC b k a i).length ≤ 5 * 6 ^ k := fun i hi => by
      have h1 : (partC b k a i).length ≤ ((List.range i).map fun i => a + i).length * 6 ^ k := flat_le fun x _ => by rw [List.length_map]; exact chosen_len hb k (x + 1)
      have h2 : ((List.range i).map fun i => a + i).length ≤ 5 := by simpa using hi
      exact Nat.le_trans h1 (Nat.mul_le_mul_right _ h2)
    have h6 : 6 ^ k ≤ 6 ^ 5 := Nat.pow_le_pow_right (by omega) (by omega)
    have h65 : (6 : Nat) ^ 5 = 7776 := by decide
    refine ⟨fun out x w' => ∃ i : Nat, x = ((a + i : Nat) : Int) ∧ (i = 0 ∨ a + i ≤ b) ∧ OwnRs w.heap.size w' out ((partC b k a i).map intL) ∧ Grow w w', fun _ x _ => b - x.toNat, ⟨0, rfl, .inl rfl, OwnX.nil _ _ _, Grow.refl _⟩, ?_⟩
    rintro - out x w7 ⟨i, rfl, hi, ho, g7⟩
    refine condD (fun hlt => ?_) fun hge => ?_
    · have hil : a + i < b := by omega
      refine ⟨by unfold inR; omega, by unfold inR; omega, ?_⟩
      rw [show (((a + i : Nat) : Int) + 1) = ((a + i + 1 : Nat) : Int) by omega, show (((k + 1 : Nat) : Int) - 1) = (k : Int) by omega]
      refine (chosen_c hb k (a + i + 1) w7 (by omega) (by omega)).mono ?_
      rintro e w8 ⟨rv, rfl, hr, g8⟩
      have hMl := chosen_len hb k (a + i + 1)
      obtain ⟨M, hM⟩ : ∃ M, M = chosenL b k (a + i + 1) := ⟨_, rfl⟩
      rw [← hM] at hr hMl
      have hMk : ∀ m ∈ M, m.length = k := fun m hm => by
        rw [hM] at hm
        exact ((chosen_mem b).1 hm).1
      have s7 := g7.size
      have s8 := g8.size
      refine ⟨rv, rfl, SlX.ln hr.slX ?_⟩
      rw [List.length_map]
      refine ⟨fun out2 t w' => ∃ j : Nat, t = j ∧ j ≤ M.length ∧ OwnRs w.heap.size w' out2 ((partC b k a i ++ (M.take j).map ((a + i) :: ·)).map intL) ∧ (∀ x, out2.ownBlock = some x → x < w7.heap.size ∨ w8.heap.size ≤ x) ∧ Fr (fun x => x < w7.heap.size ∨ w8.heap.size ≤ x) w8 w' ∧ Grow w w', fun _ t _ => M.length - t.toNat,
        ⟨0, rfl, by omega, by simpa using ho.grow g8, fun x hx => .inl (ho.lt hx).2, Fr.refl _ _, g7.trans g8⟩, ?_⟩
      rintro - out2 t w19 ⟨j, rfl, hj, ho2, hblk, hf, g19⟩
      have s19 := hf.size
      refine condD (fun hlt2 => ?_) fun hge2 => ?_
      · have hjl : j < M.length := by omega
        have hjm : j < (M.map intL).length := by rw [List.length_map]; exact hjl
        have hr19 : SlL w19 rv (M.map intL) := (OwnX.fr hr (hf.mono fun x hx e => (by omega : x < w7.heap.size)) (fun x hx => hx) fun x hx e => by have := (hr.lt hx).1; omega).slX
        refine SlL.rd1 hr19 rfl hjm fun u hu w24 hw24 => ?_
        have eM : (M.map intL)[j] = intL M[j] := by simp
        rw [eM] at hu
        have g24 := alloc_grow hw24
        have s24 := alloc_size hw24
        have hmk := hMk _ (List.getElem_mem hjl)
        have hl := Own.lit (B := w19.heap.size) (n := 1) (sz := 1) hw24 (Nat.le_refl _) (by omega) (by simp)
        refine papp el_int (by omega) hl (hu.grow g24) (by simp) (fun y hy => by obtain ⟨z, _, rfl⟩ := List.mem_map.1 hy; rfl) (by omega) (by rw [intL_len]; omega) (by omega) ?_
        intro v' w26 hov hf26 _
        have hov2 : OwnI w26 w19.heap.size v' (intL ((a + i) :: M[j])) := by
          unfold OwnI
          rw [show (intL ((a + i) :: M[j])).length = 1 + (intL M[j]).length by simp [intL]; omega]
          exact hov
        have g26 : Grow w19 w26 := g24.fr hf26 fun i hi e => by
          simp [Value.ownBlock] at e
          omega
        have s26 := g26.size
        refine ⟨Own.one hov2, fun w27 hw27 => ?_⟩
        have hob : ∀ x, out2.ownBlock = some x → w.heap.size ≤ x ∧ x < w19.heap.size := fun x hx => ho2.lt hx
        have sg := g19.size
        refine pappX1 el_row (by omega) (cs := [v']) (y := intL ((a + i) :: M[j])) (ho2.grow g26) hw27 (elx_row hov2 (fun x hx => by have hx : x < w.heap.size := hx; omega) fun x hx => (hob x hx).2) (by omega) (by
          have := hpl i (by omega)
          simp only [List.length_map, List.length_append, List.length_take]
          omega) (by omega) ?_
        intro v2 w29 ho3 hf29 _ hb29
        have g27 := alloc_grow hw27
        have eA : (partC b k a i ++ (M.take (j + 1)).map ((a + i) :: ·)).map intL = (partC b k a i ++ (M.take j).map ((a + i) :: ·)).map intL ++ [intL ((a + i) :: M[j])] := by
          rw [List.take_succ_eq_append_getElem hjl]
          simp only [List.map_append, List.append_assoc, List.map_cons, List.map_nil]
        refine ⟨by unfold inR; omega, ⟨j + 1, by omega, by omega, by rw [eA]; exact ho3, fun x hx => ?_, ?_, ?_⟩, by dsimp only; omega⟩
        · rcases hb29 x hx with h1 | h1
          · exact hblk x h1.symm
          · exact .inr (by omega)
        · exact hf.trans ((Fr.of_grow (g26.trans g27)).trans (hf29.mono fun x _ e => hblk x e.symm))
        · exact ((g19.trans g26).trans g27).fr hf29 fun i hi e => by have := (hob i e.symm).1; omega
      · have hjl : j = M.length := by omega
        subst hjl
        rw [List.take_length] at ho2
        refine ⟨by unfold inR; omega, ⟨i + 1, by omega, .inr (by omega), by rw [partC_succ, ← hM]; exact ho2, g19⟩, by dsimp only; omega⟩
    · have e : partC b k a i = chosenL b (k + 1) a := by
        rw [chosenL]
        unfold partC
        rcases hi with rfl | hi
        · rw [show b - a = 0 by omega]
        · rw [show b - a = i by omega]
      rw [e] at ho
      exact ⟨_, rfl, ho, g7⟩
end Go.Proofs.YtjkphmbjdleppaaGreat
