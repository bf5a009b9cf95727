/- Contracts of package chordal: grow, Hole. The table of bits is laid (Tab). -/
import Derived.Test.YtmpjanpmkmlloaaDoorCi
namespace Go.Proofs.YtmpjanpmkmlloaaDoor
open Go Go.RowKit VC
set_option linter.unusedSimpArgs false
set_option linter.unusedVariables false

theorem growC {w0 : World} {bf bg : Nat} {g : Value} {N : List Nat} {long : Nat} (E : HEnv w0 bf bg g N) (hlong : long ≤ 12) : ∀ f, GrowC w0 bf bg N long f
  | 0 => fun xs w l hst ho hlen hl1 hxs => by
    refine f72_calls _ _ _ _ _ ?_
    have hN := E.vn
    refine ⟨ho.one, fun w1 hw1 w2 hw2 => ?_⟩
    have g1 := alloc_grow hw1
    have g2 := alloc_grow hw2
    have g02 := g1.trans g2
    have cl := g2.cell (alloc_cell0 hw1)
    refine ⟨l, cl, (ho.grow g02).slI.ln ⟨_, alloc_cell0 hw2, condD (fun _ => ⟨l, cl, ?_⟩) (fun h => ?_)⟩⟩
    · refine (clone_c (ho.grow g02).slI (by simp; omega)).mono ?_
      rintro e w3 ⟨u, rfl, hu, g3⟩
      have g03 := g02.trans g3
      have hst3 := hst.grow E.size g03
      obtain ⟨x, hbx⟩ := hst3.box
      refine ⟨u, rfl, hu.one, ⟨_, hbx.cell⟩, hbx.free, fun w4 hw4 => ?_⟩
      have f4 := set_fr hw4
      have hb4 : Box w4 bf u := hbx.set hw4
      have hst4 : HSt w0 bf bg w4 := hst3.fr E.size f4 (fun k hk => .inl hk) ⟨_, hb4⟩
      have hu4 : OwnI w4 w2.heap.size u (ofN xs) := hu.fr f4 fun k hk e => by
        have := (hu.lt hk).1; have h2 := hst.sz; have := g02.size
        have : k = bf := e
        omega
      have ho4 : OwnI w4 (bf + 2) l (ofN xs) := (ho.grow g03).fr f4 fun k hk e => by
        have := (ho.lt hk).1
        have : k = bf := e
        omega
      have cl4 : w4.cell? ⟨w.heap.size, 0, none⟩ = some l := f4.cell (g3.cell cl) fun e => by
        have := hst.sz
        have : w.heap.size = bf := e
        omega
      refine ⟨g, hst4.gr.cell E.cg, l, cl4, (hole_c (E.sl.grow hst4.gr) ho4.slI hN holeB_iff).mono ?_⟩
      rintro e w5 ⟨rfl, g5⟩
      have hfr : Fr (fun k => k = bf ∨ some k = l.ownBlock) w w5 := (Fr.of_grow g03).trans ((f4.mono fun k _ h => .inl h).trans (Fr.of_grow g5))
      refine ⟨_, rfl, _, rfl, hst4.grow E.size g5, hfr, fun hb => ⟨?_, ho4.grow g5⟩, fun hb => ⟨xs, u, ?_, hb4.grow g5, (hu4.grow g5).slI⟩⟩
      · unfold dfs; rw [hb]; rfl
      · unfold dfs; rw [hb]; rfl
    · simp at h; omega
  | f + 1 => fun xs w l hst ho hlen hl1 hxs => by
    have ih := growC (long := long) E hlong f
    refine f72_calls _ _ _ _ _ ?_
    have hN := E.vn
    have h12 := hN.le
    refine ⟨ho.one, fun w1 hw1 w2 hw2 => ?_⟩
    have g1 := alloc_grow hw1
    have g2 := alloc_grow hw2
    have g02 := g1.trans g2
    have cl := g2.cell (alloc_cell0 hw1)
    have hs2 := (ho.grow g02).slI
    have hst2 := hst.grow E.size g02
    have hz : (xs.length : Int) - 1 = ((xs.length - 1 : Nat) : Int) := by omega
    refine ⟨l, cl, hs2.ln ⟨_, alloc_cell0 hw2, condD (fun h => ?_) (fun _ => ⟨l, cl, l, cl, hs2.ln ⟨?_, hs2.rd (i := xs.length - 1) (by simpa using hz) (by simp; omega) ?_⟩⟩)⟩⟩
    · simp at h; omega
    · rw [ofN_len]; unfold inR; omega
    rw [ofN_get, gn_get]
    have hlast := gn_mem hxs (show xs.length - 1 < xs.length by omega)
    refine ⟨g, hst2.gr.cell E.cg, (E.sl.grow hst2.gr).rd rfl (by simpa using hlast) ?_⟩
    rw [ofN_get, nb_get]
    refine (nodes_c (hN.nb_lt' _) (E.tab.grow hst2.gr)).mono ?_
    rintro e w3 ⟨u, rfl, hu, g3⟩
    have g03 := g02.trans g3
    refine ⟨u, rfl, ?_⟩
    have ho3 := ho.grow g03
    have hsz := hst.sz
    have s1 := alloc_size hw1
    have s2 := alloc_size hw2
    have own_ne : ∀ k, w.heap.size ≤ k → l.ownBlock ≠ some k := fun k hk e => by have := (ho.lt e).2; omega
    have hnotS : ∀ k, w.heap.size ≤ k → ¬ (k = bf ∨ some k = l.ownBlock) := fun k hk h => by
      rcases h with h | h
      · omega
      · exact own_ne k hk h.symm
    let es := els (nb N (gn xs (xs.length - 1)))
    refine (containsFunc_inv (xs := ofN es)
      (Inv := fun k w' => HSt w0 bf bg w' ∧ Fr (fun k => k = bf ∨ some k = l.ownBlock) w3 w' ∧ OwnI w' (bf + 2) l (ofN xs) ∧ ∀ j (hj : j < es.length), j < k → dfsF N long f xs es[j] = none)
      (Post := fun k w' => HSt w0 bf bg w' ∧ Fr (fun k => k = bf ∨ some k = l.ownBlock) w3 w' ∧ ∃ (hk : k < es.length) (r : List Nat) (u : Value), dfsF N long f xs es[k] = some r ∧ (∀ j (hj : j < es.length), j < k → dfsF N long f xs es[j] = none) ∧ Box w' bf u ∧ SlI w' u (ofN r))
      ⟨hst.grow E.size g03, Fr.refl _ _, ho3, fun j _ h => by omega⟩
      (fun k w' h => (hu.fr h.2.1 fun k hk => hnotS k (by have := (hu.lt hk).1; omega)).slI)
      ⟨_, _, _, rfl, rfl, fun k hk w' h => ?_⟩).mono ?_
    · obtain ⟨hst', hf', ho', hno⟩ := h
      have hk' : k < es.length := by simpa using hk
      rw [ofN_get]
      have hmem := mem_els.1 (List.getElem_mem hk')
      refine (hole_step E ih hst' ho' hlen hl1 hxs hlong (hf'.cell (g3.cell cl) (hnotS _ (Nat.le_refl _))) (hf'.cell (g3.cell (alloc_cell0 hw2)) (hnotS _ (show w.heap.size ≤ w1.heap.size by omega))) ⟨by omega, own_ne _ (Nat.le_refl _)⟩ ⟨by omega, own_ne _ (by omega)⟩ hmem.2).mono ?_
      rintro e w'' ⟨b, rfl, hst'', hf'', hfalse, htrue⟩
      refine ⟨b, rfl, fun hb => ?_, fun hb => ?_⟩
      · obtain ⟨r, u', hd, hbx, hsr⟩ := htrue hb
        exact ⟨hst'', hf'.trans hf'', hk', r, u', hd, hno, hbx, hsr⟩
      · obtain ⟨hd, ho''⟩ := hfalse hb
        refine ⟨hst'', hf'.trans hf'', ho'', fun j hj hjk => ?_⟩
        by_cases e : j = k
        · subst e; exact hd
        · exact hno j hj (by omega)
    · rintro e w4 ⟨b, rfl, htrue, hfalse⟩
      refine ⟨b, rfl, ?_⟩
      cases b with
      | true =>
        obtain ⟨k, hk, hst4, hf4, hk', r, u', hd, hno, hbx, hsr⟩ := htrue rfl
        refine ⟨true, rfl, hst4, (Fr.of_grow g03).trans hf4, (fun h => by cases h), fun _ => ⟨r, u', ?_, hbx, hsr⟩⟩
        rw [dfs_els]
        exact findSome_idx hk' hno hd
      | false =>
        obtain ⟨hst4, hf4, ho4, hno⟩ := hfalse rfl
        refine ⟨false, rfl, hst4, (Fr.of_grow g03).trans hf4, fun _ => ⟨?_, ho4⟩, fun h => by cases h⟩
        rw [dfs_els, List.findSome?_eq_none_iff]
        intro x hx
        obtain ⟨j, hj, rfl⟩ := List.mem_iff_getElem.1 hx
        exact hno j hj (by simpa using hj)
theorem firstH_at {N : List Nat} {long : Nat} {r : List Nat} (h4 : 4 ≤ long) (hle : long ≤ N.length) (hno : ∀ k, 4 ≤ k → k < long → holeS N k = none) (h : holeS N long = some r) : firstH N = some r := by
  unfold firstH
  refine findSome_idx (k := long) (by simp; omega) (fun j hj hjk => ?_) ?_
  · rw [List.getElem_range]
    split
    · exact hno j (by omega) hjk
    · rfl
  · rw [List.getElem_range, if_pos h4, h]
theorem Hole_no {w : World} {v : Value} {G : List Int} (hs : SlI w v G) (hv : ¬ VG G) : Calls Tryd.prog 27 #[v] w (Ret w (.tuple #[.slice none 0 0, .int .i64 2])) := by
  refine f27_calls _ ?_
  refine ⟨hs.one, fun w1 hw1 => ⟨v, alloc_cell0 hw1, ?_⟩⟩
  have g1 := alloc_grow hw1
  refine (chordal_no (hs.grow g1) hv).mono ?_
  rintro e w2 ⟨rfl, g2⟩
  exact ⟨_, rfl, rfl, g1.trans g2⟩
/-- Hole of a valid graph: the first of the shortest holes; it ends because a graph without an order has one (that is asked here). -/
theorem Hole_c {w : World} {v : Value} {N : List Nat} (hs : SlI w v (ofN N)) (hN : VN N) (hT : Tab w) (hd : ordG N = none → (firstH N).isSome = true) (hd2 : (ordG N).isSome = true → firstH N = none) :
    Calls Tryd.prog 27 #[v] w fun e w' => ∃ u, e = .returned (.tuple #[u, .int .i64 (if (firstH N).isSome then 0 else 5)]) ∧ SlI w' u (ofN ((firstH N).getD [])) ∧ Grow w w' := by
  refine f27_calls _ ?_
  refine ⟨hs.one, fun w1 hw1 => ⟨v, alloc_cell0 hw1, ?_⟩⟩
  have g1 := alloc_grow hw1
  refine (chordal_c (hs.grow g1) hN (hT.grow g1)).mono ?_
  rintro e w2 ⟨rfl, g2⟩
  have g02 := g1.trans g2
  cases ho : ordG N with
  | some l =>
    rw [hd2 (by rw [ho]; rfl)]
    refine ⟨_, rfl, condD (fun h => by simp at h) fun _ => condD (fun _ => ⟨_, rfl, SlI.nil _, g02⟩) fun h => absurd rfl h⟩
  | none =>
    have hsome := hd ho
    refine ⟨_, rfl, condD (fun h => by simp at h) fun _ => condD (fun h => by simp at h) fun _ => ?_⟩
    intro w3 hw3 w4 hw4
    have g3 := alloc_grow hw3
    have g4 := alloc_grow hw4
    have s3 := alloc_size hw3
    have s4 := alloc_size hw4
    have hb4 : Box w4 w3.heap.size (.nilFunc) := Box.new hw4
    refine ⟨⟨rfl, rfl⟩, ⟨_, hb4.cell⟩, hb4.free, fun w5 hw5 => ?_⟩
    have E : HEnv w2 w2.heap.size w.heap.size v N := ⟨rfl, g2.cell (alloc_cell0 hw1), hs.grow g02, hN, hT.grow g02⟩
    have hlt : w.heap.size < w2.heap.size := by have := alloc_size hw1; have := g2.size; omega
    have f5 := set_fr hw5
    have g25 : Grow w2 w5 := (g3.trans g4).fr f5 fun i hi e => by
      have : i = w3.heap.size := e
      omega
    have hst5 : HSt w2 w2.heap.size w.heap.size w5 := by
      refine ⟨g25, ?_, ⟨.slice none 0 0, ((Box.new hw3).grow g4).fr f5 fun e => by
        have : w2.heap.size = w3.heap.size := e
        omega⟩, by have := f5.size; omega⟩
      have := (hb4.set hw5).cell
      rw [s3] at this
      rw [this]
      rfl
    obtain ⟨r0, hr0⟩ := Option.isSome_iff_exists.1 hsome
    refine ⟨fun long w' => ∃ k : Nat, long = k ∧ 4 ≤ k ∧ k ≤ N.length ∧ HSt w2 w2.heap.size w.heap.size w' ∧ ∀ j, 4 ≤ j → j < k → holeS N j = none, fun long _ => 13 - long.toNat, ?_, ?_⟩
    · obtain ⟨k, hk, h1⟩ := List.exists_of_findSome?_eq_some (show (List.range (N.length + 1)).findSome? (fun k => if 4 ≤ k then holeS N k else none) = some r0 from hr0)
      refine ⟨4, rfl, by omega, ?_, hst5, fun j h1 h2 => by omega⟩
      split at h1
      · simp at hk; omega
      · cases h1
    rintro - long w6 ⟨long, rfl, h4, hle, hst6, hno⟩
    have h12 := hN.le
    refine ⟨v, hst6.gr.cell E.cg, (E.sl.grow hst6.gr).ln ?_⟩
    rw [ofN_len]
    refine ⟨fun t w' => ∃ k : Nat, t = k ∧ k ≤ N.length ∧ HSt w2 w2.heap.size w.heap.size w' ∧ ∀ j, j < k → dfs N long (long - 1) [j] = none, fun t _ => N.length - t.toNat, ⟨0, rfl, by omega, hst6, fun j h => by omega⟩, ?_⟩
    rintro - t w7 ⟨k, rfl, hk, hst7, hno2⟩
    refine condD (fun hlt2 => ?_) (fun hge => ?_)
    · have hkl : k < N.length := by omega
      refine ⟨_, by rw [s3]; exact hst7.cl, fun w8 hw8 => ⟨_, _, _, rfl, rfl, ?_⟩⟩
      have g8 := alloc_grow hw8
      have hst8 := hst7.grow rfl g8
      have ho8 : OwnI w8 (w2.heap.size + 2) (.slice (some ⟨w7.heap.size, 0, none⟩) 1 1) (ofN [k]) := Own.lit (n := 1) (sz := 1) hw8 hst7.sz (by omega) (by simp)
      have := growC E (by omega) (long - 1) [k] w8 _ hst8 ho8 (show 1 + (long - 1) = long by omega) (by simp) (by simpa using hkl)
      refine this.mono ?_
      rintro e w9 ⟨b, rfl, hst9, hf9, hfalse, htrue⟩
      refine ⟨b, rfl, condP_i (fun hb => ?_) (fun hb => ?_)⟩
      · obtain ⟨r, u, hd, hbx, hsr⟩ := htrue hb
        have hS : holeS N long = some r := by
          unfold holeS
          refine findSome_idx (k := k) (by simpa using hkl) (fun j hj hjk => ?_) ?_
          · rw [List.getElem_range]; exact hno2 j hjk
          · rw [List.getElem_range]; exact hd
        have hF := firstH_at h4 hle hno hS
        rw [hF]
        exact ⟨u, hbx.cell, u, rfl, hsr, g02.trans hst9.gr⟩
      · refine ⟨by unfold inR; omega, ⟨k + 1, by omega, by omega, hst9, fun j hj => ?_⟩, by dsimp only; omega⟩
        by_cases e : j = k
        · subst e; exact (hfalse hb).1
        · exact hno2 j (by omega)
    · have hkN : k = N.length := by omega
      subst hkN
      have hS : holeS N long = none := by
        unfold holeS
        rw [List.findSome?_eq_none_iff]
        intro x hx
        exact hno2 x (by simpa using hx)
      have hno3 : ∀ j, 4 ≤ j → j < long + 1 → holeS N j = none := fun j h1 h2 => by
        by_cases e : j = long
        · subst e; exact hS
        · exact hno j h1 (by omega)
      have hlt3 : long + 1 ≤ N.length := by
        rcases Nat.lt_or_ge long N.length with h | h
        · omega
        · exfalso
          have : firstH N = none := by
            unfold firstH
            rw [List.findSome?_eq_none_iff]
            intro j hj
            have hj' : j < N.length + 1 := by simpa using hj
            split
            · exact hno3 j (by omega) (by omega)
            · rfl
          rw [this] at hr0; cases hr0
      exact ⟨by unfold inR; omega, ⟨long + 1, by omega, by omega, hlt3, hst7, hno3⟩, by dsimp only; omega⟩
end Go.Proofs.YtmpjanpmkmlloaaDoor
