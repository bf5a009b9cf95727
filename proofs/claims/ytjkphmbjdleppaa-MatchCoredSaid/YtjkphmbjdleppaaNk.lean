/- The core's query; part. No condition. -/
import Derived.Test.YtjkphmbjdleppaaNj
namespace Go.Proofs.Ytjkphmbjdleppaa
open Go Go.RowKit VC
set_option linter.unusedSimpArgs false
set_option linter.unusedVariables false

theorem core_rows {h : List Int} {fs b : List Atm} {c : List Nat} (hf : PosF fs) (ok : okQ h b = true) (hg : Good h b c) (hc : ∀ i ∈ c, i < b.length) : rowsOf h (allM (srtF fs) b) = rowsOf h (allM (srtF fs) (partN b c)) := by
  obtain ⟨okp, g, hG⟩ := hg
  refine str_uniq (key := id) (str_srt (fun _ _ e => e) _) (str_srt (fun _ _ e => e) _) fun y => ⟨fun hy => ?_, fun hy => ?_⟩
  · exact hom_rows hf okp ok rfl (hom_id okp (partN_mem hc)) hy
  · exact hom_rows hf ok okp rfl hG hy
theorem core_core {h : List Int} {b : List Atm} {c d : List Nat} (ok : okQ h b = true) (hB : BestO h b (2 ^ b.length) (some c)) (hD : BestO h (partN b c) (2 ^ (partN b c).length) (some d)) : d.length = c.length := by
  obtain ⟨sc, -, -, hsc⟩ := hB.2.1
  obtain ⟨sd, -, -, hsd⟩ := hD.2.1
  have hcs : c.Sublist (List.range b.length) := by rw [hsc]; exact setL_sub _ _
  have hpl : (partN b c).length = c.length := by simp [partN]
  rw [hpl] at hsd
  have hds : d.Sublist (List.range c.length) := by rw [hsd]; exact setL_sub _ _
  have hle := hds.length_le
  rw [List.length_range] at hle
  rcases Nat.lt_or_ge d.length c.length with hlt | hge
  · exfalso
    have e1 : (List.range c.length).map (fun i => c.getD i 0) = c := List.ext_getElem (by simp) fun i h1 h2 => by simp [List.getD, h2]
    have hes : (d.map fun i => c.getD i 0).Sublist c := by
      have := hds.map fun i => c.getD i 0
      rwa [e1] at this
    have hdi : ∀ i ∈ d, i < c.length := fun i hi => List.mem_range.1 (hds.subset hi)
    have e2 : partN b (d.map fun i => c.getD i 0) = partN (partN b c) d := by
      unfold partN
      rw [List.map_map]
      refine List.map_congr_left fun i hi => ?_
      have := hdi i hi
      simp [Function.comp, List.getD, this]
    obtain ⟨okp, g1, h1⟩ := hB.1
    obtain ⟨okd, g2, h2⟩ := hD.1
    have hg : Good h b (d.map fun i => c.getD i 0) := by
      unfold Good
      rw [e2]
      exact ⟨okd, _, hom_comp ok okp rfl h1 h2⟩
    exact core_le hB (hes.trans hcs) hg (.inl (by simpa using hlt))
  · omega
theorem part_c {w : World} {hv bv lv : Value} {h : List Int} {b : List Atm} {L : List Nat} (sh : SlI w hv h) (sb : SlA w bv b) (sl : SlI w lv (intL L)) (hL : ∀ i ∈ L, i < b.length) (hh : h.length ≤ 1000000) (hLl : L.length ≤ 1000000) :
    Calls Try.prog 46 #[.agg #[hv, bv], lv] w fun e w' => ∃ hv' bv', e = .returned (.tuple #[.agg #[hv', bv'], .bool true]) ∧ SlI w' hv' h ∧ SlA w' bv' (partN b L) ∧ Grow w w' := by
  refine f46_calls _ _ ?_
  refine ⟨_, rfl, fun w1 hw1 w3 hw3 => ?_⟩
  have g1 := alloc_grow hw1
  have g3 := alloc_grow hw3
  have s1 := alloc_size hw1
  have s3 := alloc_size hw3
  have g03 := g1.trans g3
  have p0 := g3.cell (boxc hw1 0 hv rfl)
  have p1 := g3.cell (boxc hw1 1 bv rfl)
  have hR := RecV.new hw3
  refine ⟨hv, p0, (clone_c (sh.grow g03) hh).mono ?_⟩
  rintro e w5 ⟨hv', rfl, hoH, g5⟩
  have g05 := g03.trans g5
  have s5 := g5.size
  refine ⟨hv', rfl, Own.one hoH, fun w8 hw8 => RecV.init (cs := [hv', .slice none 0 0]) hw8 rfl (by
    intro y hy
    simp at hy
    rcases hy with rfl | rfl
    · exact (Own.one hoH).2
    · rfl) fun w9 g9 s9 hC => (sl.grow (g05.trans g9)).ln ?_⟩
  rw [intL_len]
  refine ⟨fun t w' => ∃ (k : Nat) (av : Value), t = k ∧ k ≤ L.length ∧ RecV w' w5.heap.size [hv', av] ∧ OwnX (fun x => w.heap.size ≤ x) 2 repA w' w9.heap.size 85 av (partN b (L.take k)) ∧ Fr (fun i => i = w5.heap.size ∨ w9.heap.size ≤ i) w9 w', fun t _ => L.length - t.toNat,
    ⟨0, _, rfl, by omega, hC, OwnX.nil _ _ _, Fr.refl _ _⟩, ?_⟩
  rintro - t w18 ⟨k, av, rfl, hk, hrc, hoA, hf⟩
  have g518 : Grow w5 w18 := g9.fr hf fun i hi e => by omega
  have g018 := g05.trans g518
  refine condD (fun hlt => ?_) (fun hge => ?_)
  · have hkl : k < L.length := by omega
    have hki : k < (intL L).length := by rw [intL_len]; exact hkl
    have hx := hL _ (List.getElem_mem hkl)
    have eX : (intL L)[k] = ((L[k] : Nat) : Int) := by simp [intL]
    refine (sl.grow g018).rd rfl hki ?_
    rw [eX]
    refine condD (fun hneg => absurd hneg (by omega)) fun _ => ⟨bv, ((g5.trans g518)).cell p1, SlX.ln (sb.gr g018) (condD (fun hbig => absurd hbig (by omega)) fun _ m => ?_)⟩
    obtain ⟨wd, ewd⟩ : ∃ wd, wd = dr w18 m := ⟨_, rfl⟩
    have gd : Grow w18 wd := by rw [ewd]; exact (Grow.refl w18).dr m
    rw [← ewd]
    have g0d := g018.trans gd
    have hrd := hrc.grow gd
    have hod := hoA.grow gd
    have hav : ∀ x, av.ownBlock = some x → w9.heap.size ≤ x ∧ x < w18.heap.size := fun x hx => hoA.lt hx
    obtain ⟨a', n', c', e, hb, cs, hl, hcs, u, rfl, hu⟩ := SlX.rd (pinX sb g0d) (j := ((L[k] : Nat) : Int)) rfl hx (K := fun cs => ∃ u, cs = [.int .i64 b[L[k]].1, u] ∧ SlI w u b[L[k]].2) fun cs _ hr => hr
    have bx := ((g5.trans g518).trans gd).cell p1
    have hs18 := gd.size
    have hs9 := hf.size
    have eP : partN b (L.take (k + 1)) = partN b (L.take k) ++ [b[L[k]]] := by
      rw [List.take_succ_eq_append_getElem hkl, partN_app]
      simp [partN, List.getD, hx]
    have leaf : ∀ {w40 : World}, w40 = wd.alloc (.cells #[.int .i64 b[L[k]].1, u] 85) → PApp Try.prog 31 31 av (.slice (some ⟨wd.heap.size, 0, none⟩) 1 1) w40 fun t w45 => oneV t ∧ (∃ old, w45.cell? (Addr.add ⟨w5.heap.size, 0, none⟩ 1) = some old) ∧ w45.frozen? (Addr.add ⟨w5.heap.size, 0, none⟩ 1) = false ∧ ∀ w46, w46 = w45.setCell (Addr.add ⟨w5.heap.size, 0, none⟩ 1) t →
        inR ((k : Int) + 1) ∧ ((∃ (k' : Nat) (av : Value), (k : Int) + 1 = k' ∧ k' ≤ L.length ∧ RecV w46 w5.heap.size [hv', av] ∧ OwnX (fun x => w.heap.size ≤ x) 2 repA w46 w9.heap.size 85 av (partN b (L.take k')) ∧ Fr (fun i => i = w5.heap.size ∨ w9.heap.size ≤ i) w9 w46) ∧ L.length - Int.toNat ((k : Int) + 1) < L.length - Int.toNat (k : Int)) := fun {w40} hw40 => by
      have g40 := alloc_grow hw40
      have h05 := g05.size
      refine pappX1 el_atom (by omega) (cs := [.int .i64 b[L[k]].1, u]) (y := b[L[k]]) hod hw40 ⟨rfl, fun y hy => by
        simp at hy
        rcases hy with rfl | rfl
        · rfl
        · exact hu.one.2, fun w2 hfr => ⟨u, rfl, hu.grow (g0d.fr hfr fun i hi e => by
          rcases e with e | e
          · omega
          · have := (hav i e.symm).1
            omega)⟩⟩ (by omega) (by rw [partN, List.length_map, List.length_take]; omega) (by omega) ?_
      intro v2 w45 ho2 hf2 _ _
      have hr45 : RecV w45 w5.heap.size [hv', av] := (hrd.grow g40).fr hf2 fun e => by have := (hav _ e.symm).1; omega
      refine ⟨OwnX.one ho2, ⟨_, hr45.cell (j := 1) rfl⟩, hr45.free 1, fun w46 hw46 => ⟨by unfold inR; omega, ⟨k + 1, v2, by omega, by omega, hr45.set hw46, ?_, ?_⟩, by omega⟩⟩
      · rw [eP]
        exact OwnX.fr ho2 (RecV.set_fr hw46) (fun x hx => by rw [hx]; exact h05) (fun x hx e => by have := (ho2.lt hx).1; omega)
      · exact (hf.trans (Fr.of_grow gd)).trans ((Fr.of_grow g40).trans ((hf2.mono fun x _ e => .inr (hav x e.symm).1).trans ((RecV.set_fr hw46).mono fun x _ e => .inl e)))
    refine ⟨⟨av, hrd.cell (j := 1) rfl, bv, bx, a', n', c', e, hb, [_, _], rfl, hcs, bs1 el_atom (by omega) (by omega) (cs := #[.int .i64 b[L[k]].1, u]) rfl wd fun w40 hw40 => leaf hw40⟩, bv, bx, a', n', c', e, hb, ⟨av, hrd.cell (j := 1) rfl, [_, _], rfl, hcs, bs1 el_atom (by omega) (by omega) (cs := #[.int .i64 b[L[k]].1, u]) rfl wd fun w40 hw40 => leaf hw40⟩, [_, _], rfl, hcs, ⟨av, hrd.cell (j := 1) rfl, bs1 el_atom (by omega) (by omega) (cs := #[.int .i64 b[L[k]].1, u]) rfl wd fun w40 hw40 => leaf hw40⟩, bs1 el_atom (by omega) (by omega) (cs := #[.int .i64 b[L[k]].1, u]) rfl wd fun w40 hw40 => ⟨av, (hrd.grow (alloc_grow hw40)).cell (j := 1) rfl, leaf hw40⟩⟩
  · have hkl : k = L.length := by omega
    subst hkl
    rw [List.take_length] at hoA
    have hR18 : RecV w18 w1.heap.size [.slice none 0 0, .slice none 0 0] := hR.grow (g5.trans g518)
    have h05 := g05.size
    refine ⟨[_, _], rfl, hrc.all, RecV.store (cs := [hv', av]) hR18 rfl (by
      intro y hy
      simp at hy
      rcases hy with rfl | rfl
      · exact (Own.one hoH).2
      · exact (OwnX.one hoA).2) fun w72 hf72 hr72 => ⟨[_, _], rfl, hr72.all, hv', av, rfl, ?_, ?_, ?_⟩⟩
    · exact Own.slI (Own.fr (Own.grow hoH g518) hf72 fun x hx e => by have := (Own.lt hoH hx).1; omega)
    · exact OwnX.slX (OwnX.fr hoA hf72 (fun x hx => by omega) (fun x hx e => by have := (hoA.lt hx).1; omega))
    · exact g018.fr hf72 fun i hi e => by omega
end Go.Proofs.Ytjkphmbjdleppaa
