/- Contracts of package chordal and of its reference: the search for a colouring. The table of bits is laid (Tab). -/
import Derived.Test.YtmpjanpmkmlloaaDoorCl
import Derived.Test.YtmpjanpmkmlloaaDoorCk
import Derived.Test.YtmpjanpmkmlloaaDoorVo
namespace Go.Proofs.YtmpjanpmkmlloaaDoor
open Go Go.RowKit VC
set_option linter.unusedSimpArgs false
set_option linter.unusedVariables false

theorem some_cidx {N : List Nat} {k f c : Nat} {l r : List Nat} (hc : c < k) (hno : ∀ j, j < c → cdfsF N k f l j = none) (h : cdfsF N k f l c = some r) : cdfs N k (f + 1) l = some r := by
  rw [cdfs_succ]
  exact findSome_idx (k := c) (by simpa using hc) (fun j hj hjk => by rw [List.getElem_range]; exact hno j hjk) (by rw [List.getElem_range]; exact h)
theorem none_cidx {N : List Nat} {k f : Nat} {l : List Nat} (hno : ∀ j, j < k → cdfsF N k f l j = none) : cdfs N k (f + 1) l = none := by
  rw [cdfs_succ, List.findSome?_eq_none_iff]
  exact fun x hx => hno x (by simpa using hx)
/-! ## package chordal -/
def tryClo (bg bm bo : Nat) : Value := .func (.func 88) #[] #[.pointer (some ⟨bg, 0, none⟩), .pointer (some ⟨bm, 0, none⟩), .pointer (some ⟨bo + 1, 0, none⟩), .pointer (some ⟨bo + 2, 0, none⟩)]
def outV (bo n : Nat) : Value := .slice (some ⟨bo, 0, none⟩) n n
structure TEnv (w0 : World) (bg bm bo : Nat) (g : Value) (N : List Nat) (most : Nat) : Prop where
  size : w0.heap.size = bo
  cg : w0.cell? ⟨bg, 0, none⟩ = some g
  cm : w0.cell? ⟨bm, 0, none⟩ = some (.int .i64 (most : Int))
  sl : SlI w0 g (ofN N)
  vn : VN N
  tab : Tab w0
structure TSt (w0 : World) (bg bm bo n : Nat) (w : World) : Prop where
  gr : Grow w0 w
  co : w.cell? ⟨bo + 1, 0, none⟩ = some (outV bo n)
  ct : w.cell? ⟨bo + 2, 0, none⟩ = some (tryClo bg bm bo)
  sz : bo + 3 ≤ w.heap.size
theorem TSt.fr {S : Nat → Prop} {w0 w w' : World} {bg bm bo n : Nat} (h0 : w0.heap.size = bo) (h : TSt w0 bg bm bo n w) (hf : Fr S w w') (hs : ∀ k, S k → k = bo ∨ bo + 3 ≤ k) : TSt w0 bg bm bo n w' :=
  ⟨h.gr.fr hf fun i hi e => by rcases hs i e with h | h <;> omega, hf.cell h.co fun e => by rcases hs _ e with h | h <;> simp at h <;> omega, hf.cell h.ct fun e => by rcases hs _ e with h | h <;> simp at h <;> omega, by have := h.sz; have := hf.size; omega⟩
theorem TSt.grow {w0 w w' : World} {bg bm bo n : Nat} (h0 : w0.heap.size = bo) (h : TSt w0 bg bm bo n w) (hg : Grow w w') : TSt w0 bg bm bo n w' := h.fr h0 (Fr.of_grow (S := fun _ => False) hg) fun _ h => h.elim
theorem try_lit_c {w : World} {b1 b2 : Nat} {u : Value} {l : List Int} {c : Int} (h1 : w.cell? ⟨b1, 0, none⟩ = some u) (h2 : w.cell? ⟨b2, 0, none⟩ = some (.int .i64 c)) (hu : SlI w u l) {j : Nat} (hj : j < l.length) :
    Calls Tryd.prog 89 #[.int .i64 (j : Int), .pointer (some ⟨b1, 0, none⟩), .pointer (some ⟨b2, 0, none⟩)] w (Ret w (.bool (decide (gi l j = c)))) := by
  refine f89_calls _ _ _ ?_
  refine ⟨u, h1, hu.rd rfl hj ⟨c, h2, fun m => ⟨?_, (Grow.refl w).dr m⟩⟩⟩
  rw [gi_get hj]
theorem gn_take {xs : List Nat} {i j : Nat} (h : j < i) : gn (xs.take i) j = gn xs j := by simp [gn, h]
/-- What a call of try leaves. -/
def TPost (w0 : World) (bg bm bo : Nat) (N : List Nat) (most f i : Nat) (xs : List Nat) (w : World) (e : Ending) (w' : World) : Prop :=
  ∃ (b : Bool) (ys : List Nat), e = .returned (.bool b) ∧ TSt w0 bg bm bo N.length w' ∧ Fr (fun k => k = bo) w w' ∧ OwnI w' bo (outV bo N.length) (ofN ys) ∧ ys.length = N.length ∧ ys.take i = xs.take i ∧ (b = true → cdfs N most f (xs.take i) = some ys) ∧ (b = false → cdfs N most f (xs.take i) = none)
theorem tryC {w0 : World} {bg bm bo : Nat} {g : Value} {N : List Nat} {most : Nat} (E : TEnv w0 bg bm bo g N most) (hm : most ≤ 12) : ∀ (f i : Nat) (xs : List Nat) (w : World), TSt w0 bg bm bo N.length w → OwnI w bo (outV bo N.length) (ofN xs) → xs.length = N.length → i + f = N.length →
    Calls Tryd.prog 88 #[.int .i64 (i : Int), .pointer (some ⟨bg, 0, none⟩), .pointer (some ⟨bm, 0, none⟩), .pointer (some ⟨bo + 1, 0, none⟩), .pointer (some ⟨bo + 2, 0, none⟩)] w (TPost w0 bg bm bo N most f i xs w)
  | 0, i, xs, w, hst, ho, hlen, hi => by
    refine f88_calls _ _ _ _ _ ?_
    refine ⟨g, hst.gr.cell E.cg, (E.sl.grow hst.gr).ln (condD (fun _ => ?_) fun h => ?_)⟩
    · refine ⟨true, xs, rfl, hst, Fr.refl _ _, ho, hlen, rfl, fun _ => ?_, fun h => by cases h⟩
      rw [List.take_of_length_le (by omega)]; rfl
    · simp at h; omega
  | f + 1, i, xs, w, hst, ho, hlen, hi => by
    refine f88_calls _ _ _ _ _ ?_
    have hN := E.vn
    have h12 := hN.le
    refine ⟨g, hst.gr.cell E.cg, (E.sl.grow hst.gr).ln (condD (fun h => by simp at h; omega) fun _ => ?_)⟩
    refine ⟨_, hst.gr.cell E.cm, fun t w' => ∃ (c : Nat) (ys : List Nat), t = c ∧ c ≤ most ∧ TSt w0 bg bm bo N.length w' ∧ Fr (fun k => k = bo) w w' ∧ OwnI w' bo (outV bo N.length) (ofN ys) ∧ ys.length = N.length ∧ ys.take i = xs.take i ∧ ∀ j, j < c → cdfsF N most f (xs.take i) j = none, fun t _ => most - t.toNat, ⟨0, xs, rfl, by omega, hst, Fr.refl _ _, ho, hlen, rfl, fun j h => by omega⟩, ?_⟩
    rintro - t w1 ⟨c, ys, rfl, hc, hst1, hf1, ho1, hl1, ht1, hno⟩
    have hti : (xs.take i).length = i := by simp; omega
    refine condD (fun hlt => ?_) (fun hge => ?_)
    · have hcm : c < most := by omega
      intro w2 hw2
      have g2 := alloc_grow hw2
      have hb2 := Box.new hw2
      refine ⟨⟨_, hb2.cell⟩, hb2.free, fun w3 hw3 m => ?_⟩
      have hb3 := hb2.set hw3
      have f3 := set_fr hw3
      have g13 : Grow w1 w3 := g2.fr f3 fun i hi e => absurd (show i = w1.heap.size from e) (by omega)
      have g14 := g13.dr m
      have hst4 := hst1.grow E.size g14
      have hmask : (iShl .i64 1 (i : Int)) - 1 = ((2 ^ i - 1 : Nat) : Int) := by
        have : 0 < 2 ^ i := Nat.pow_pos (by omega)
        rw [iShl_one (by omega)]; omega
      have hi4 : 2 ^ i ≤ 4096 := pow12 (by omega)
      rw [hmask]
      refine ⟨by omega, by unfold inR; omega, g, hst4.gr.cell E.cg, (E.sl.grow hst4.gr).rd rfl (by simp; omega) ?_⟩
      rw [ofN_get, nb_get, and_expr (hN.nb_lt' i) (by omega)]
      refine (nodes_c (Nat.lt_of_le_of_lt Nat.and_le_left (hN.nb_lt' i)) (E.tab.grow hst4.gr)).mono ?_
      rintro e w5 ⟨n5, rfl, h5, g5⟩
      have g15 := g14.trans g5
      have hbit : ∀ j, (nb N i &&& (2 ^ i - 1)).testBit j = true ↔ (nb N i).testBit j = true ∧ j < i := fun j => by
        rw [Nat.testBit_and, Nat.testBit_two_pow_sub_one, Bool.and_eq_true, decide_eq_true_eq]
      have hask : Asks w5 (.func (.func 89) #[] #[.pointer (some ⟨bo + 1, 0, none⟩), .pointer (some ⟨w1.heap.size, 0, none⟩)]) (ofN (els (nb N i &&& (2 ^ i - 1)))) (fun x => decide (gi (ofN ys) x.toNat = (c : Int))) := by
        refine ⟨_, _, _, rfl, rfl, fun x hx w' hw' => ?_⟩
        simp only [ofN, List.mem_map, mem_els] at hx
        obtain ⟨j, ⟨hj, hb⟩, rfl⟩ := hx
        simp only [Int.toNat_natCast]
        have hg := g15.trans hw'
        refine try_lit_c (hg.cell hst1.co) (hw'.cell (g5.cell (((Grow.refl w3).dr m).cell hb3.cell))) (ho1.grow hg).slI ?_
        have := (hbit j).1 hb
        simp; omega
      refine ⟨n5, rfl, (containsFunc_c h5.slI hask).mono ?_⟩
      rintro e w6 ⟨rfl, g6⟩
      have g16 := g15.trans g6
      have hst6 := hst1.grow E.size g16
      have ho6 := ho1.grow g16
      have hany : ((ofN (els (nb N i &&& (2 ^ i - 1)))).any fun x => decide (gi (ofN ys) x.toNat = (c : Int))) = true ↔ ∃ j, (nb N i).testBit j = true ∧ j < i ∧ gn ys j = c := by
        rw [List.any_eq_true]
        constructor
        · rintro ⟨x, hx, h⟩
          obtain ⟨j, hj, rfl⟩ := List.mem_map.1 hx
          have hb := (hbit j).1 (mem_els.1 hj).2
          have h := of_decide_eq_true h
          rw [Int.toNat_natCast, gi_ofN] at h
          exact ⟨j, hb.1, hb.2, by omega⟩
        · rintro ⟨j, h1, h2, h3⟩
          refine ⟨(j : Int), List.mem_map.2 ⟨j, mem_els.2 ⟨by omega, (hbit j).2 ⟨h1, h2⟩⟩, rfl⟩, decide_eq_true ?_⟩
          rw [Int.toNat_natCast, gi_ofN, h3]
      have hok : okC N (xs.take i) c = !((ofN (els (nb N i &&& (2 ^ i - 1)))).any fun x => decide (gi (ofN ys) x.toNat = (c : Int))) := by
        have hgn : ∀ j, j < i → gn (xs.take i) j = gn ys j := fun j hj => by rw [← ht1, gn_take hj]
        have h1 : okC N (xs.take i) c = false ↔ ∃ j, (nb N i).testBit j = true ∧ j < i ∧ gn ys j = c := by
          unfold okC
          rw [hti, List.all_eq_false]
          constructor
          · rintro ⟨j, hj, h⟩
            have hj := List.mem_range.1 hj
            rw [hgn j hj] at h
            simp at h
            exact ⟨j, h.1, hj, h.2⟩
          · rintro ⟨j, h1, h2, h3⟩
            refine ⟨j, List.mem_range.2 h2, ?_⟩
            rw [hgn j h2]
            simp [h1, h3]
        generalize okC N (xs.take i) c = o at *
        generalize (ofN (els (nb N i &&& (2 ^ i - 1)))).any (fun x => decide (gi (ofN ys) x.toNat = (c : Int))) = y at *
        rw [← hany] at h1
        cases o <;> cases y <;> simp_all
      refine ⟨_, rfl, condP_i (fun hb => ?_) (fun hb => ?_)⟩
      · rw [hb] at hok
        refine ⟨by unfold inR; omega, ⟨c + 1, ys, by omega, by omega, hst6, hf1.trans (Fr.of_grow g16), ho6, hl1, ht1, fun j hj => ?_⟩, by dsimp only; omega⟩
        by_cases e : j = c
        · subst e; unfold cdfsF; rw [hok]; rfl
        · exact hno j (by omega)
      · rw [hb] at hok
        have hil : i < N.length := by omega
        have hcF : cdfsF N most f (xs.take i) c = cdfs N most f (xs.take i ++ [c]) := by unfold cdfsF; rw [hok]; rfl
        have cb6 : w6.cell? ⟨w1.heap.size, 0, none⟩ = some (.int .i64 (c : Int)) := g6.cell (g5.cell (((Grow.refl w3).dr m).cell hb3.cell))
        have hadd : (⟨bo, 0, none⟩ : Addr).add (Int.toNat (i : Int) * 1) = ⟨bo, i, none⟩ := by
          unfold Addr.add
          split <;> simp_all
        have hlen6 : (ofN ys).length = N.length := by simpa using hl1
        have ho6' : Own w6 bo 3 1 (outV bo N.length) N.length ((ofN ys).map encI) := by
          have := ho6
          unfold OwnI at this
          rwa [hlen6] at this
        refine ⟨_, hst6.co, _, cb6, ⟨bo, 0, none⟩, N.length, N.length, rfl, ⟨by omega, by omega⟩, ?_⟩
        rw [hadd]
        refine ⟨(Own.wr ho6' hil).1, (Own.wr ho6' hil).2, fun w7 hw7 => ?_⟩
        have f7 := set_fr hw7
        have ho7 := Own.set ho6' hil hw7
        have hset : ((ofN ys).map encI).set i (.int .i64 (c : Int)) = (ofN (ys.set i c)).map encI := by
          simp [ofN, encI, List.map_set]
        rw [hset] at ho7
        have ho7' : OwnI w7 bo (outV bo N.length) (ofN (ys.set i c)) := by
          unfold OwnI
          rw [show (ofN (ys.set i c)).length = N.length by simp [hl1]]
          exact ho7
        have hst7 := hst6.fr E.size f7 fun k hk => .inl hk
        have htk : (ys.set i c).take (i + 1) = xs.take i ++ [c] := by
          rw [List.take_succ_eq_append_getElem (by simp; omega), List.getElem_set_self, List.take_set_of_le (Nat.le_refl _), ht1]
        refine ⟨_, hst7.ct, by unfold inR; omega, _, _, _, rfl, rfl, ?_⟩
        have hcall := tryC E hm f (i + 1) (ys.set i c) w7 hst7 ho7' (by simp [hl1]) (by omega)
        refine hcall.mono ?_
        rintro e w8 ⟨b, zs, rfl, hst8, hf8, ho8, hl8, ht8, htrue, hfalse⟩
        have hf18 : Fr (fun k => k = bo) w w8 := ((hf1.trans (Fr.of_grow g16)).trans (f7.mono fun k _ h => h)).trans hf8
        have hti8 : zs.take i = xs.take i := by
          have := congrArg (List.take i) (ht8.trans htk)
          rw [List.take_take, show min i (i + 1) = i by omega, List.take_append_of_le_length (by omega), List.take_of_length_le (l := xs.take i) (by omega)] at this
          exact this
        rw [htk] at htrue hfalse
        refine ⟨b, rfl, condP_i (fun hb8 => ?_) (fun hb8 => ?_)⟩
        · refine ⟨true, zs, rfl, hst8, hf18, ho8, hl8, hti8, fun _ => ?_, fun h => by (cases h)⟩
          exact some_cidx hcm hno (by rw [hcF]; exact htrue hb8)
        · refine ⟨by unfold inR; omega, ⟨c + 1, zs, by omega, by omega, hst8, hf18, ho8, hl8, hti8, fun j hj => ?_⟩, by dsimp only; omega⟩
          by_cases e : j = c
          · subst e; rw [hcF]; exact hfalse hb8
          · exact hno j (by omega)
    · have hcm : c = most := by omega
      subst hcm
      exact ⟨false, ys, rfl, hst1, hf1, ho1, hl1, ht1, fun h => by (cases h), fun _ => none_cidx hno⟩
theorem Colours_no {w : World} {v : Value} {G : List Int} (hs : SlI w v G) (hv : ¬ VG G) : Calls Tryd.prog 39 #[v] w (Ret w (.tuple #[.slice none 0 0, .int .i64 2])) := by
  refine f39_calls _ ?_
  refine ⟨hs.one, fun w1 hw1 => ⟨v, alloc_cell0 hw1, ?_⟩⟩
  have g1 := alloc_grow hw1
  refine (chordal_no (hs.grow g1) hv).mono ?_
  rintro e w2 ⟨rfl, g2⟩
  exact ⟨_, rfl, rfl, g1.trans g2⟩
theorem Colours_st {w : World} {v : Value} {N : List Nat} (hs : SlI w v (ofN N)) (hN : VN N) (hT : Tab w) (ho : ordG N = none) : Calls Tryd.prog 39 #[v] w (Ret w (.tuple #[.slice none 0 0, .int .i64 7])) := by
  refine f39_calls _ ?_
  refine ⟨hs.one, fun w1 hw1 => ⟨v, alloc_cell0 hw1, ?_⟩⟩
  have g1 := alloc_grow hw1
  refine (chordal_c (hs.grow g1) hN (hT.grow g1)).mono ?_
  rintro e w2 ⟨rfl, g2⟩
  rw [ho]
  exact ⟨_, rfl, rfl, g1.trans g2⟩
/-- Colours of a chordal graph: the first colouring with as many colours as a clique has nodes. -/
theorem Colours_c {w : World} {v : Value} {N : List Nat} (hs : SlI w v (ofN N)) (hN : VN N) (hT : Tab w) (ho : (ordG N).isSome = true) {l : List Nat} (hl : cdfs N (pc (omega_ N)) N.length [] = some l) :
    Calls Tryd.prog 39 #[v] w fun e w' => ∃ u, e = .returned (.tuple #[u, .int .i64 0]) ∧ SlI w' u (ofN l) ∧ Grow w w' := by
  refine f39_calls _ ?_
  have h12 := hN.le
  refine ⟨hs.one, fun w1 hw1 => ⟨v, alloc_cell0 hw1, ?_⟩⟩
  have g1 := alloc_grow hw1
  refine (chordal_c (hs.grow g1) hN (hT.grow g1)).mono ?_
  rintro e w2 ⟨rfl, g2⟩
  have g02 := g1.trans g2
  have cl : ∀ {w'}, Grow w2 w' → w'.cell? ⟨w.heap.size, 0, none⟩ = some v := fun hg => hg.cell (g2.cell (alloc_cell0 hw1))
  have hs2 := hs.grow g02
  have hw : omega_ N < 4096 := by
    have := bestN_lt (q := cliq N) (k := 2 ^ N.length) (Nat.pow_pos (by omega))
    have := hN.pow
    unfold omega_; omega
  rw [ho]
  refine ⟨_, rfl, ?_⟩
  show ∃ _, _
  refine ⟨v, cl (Grow.refl w2), v, cl (Grow.refl w2), (best_c hs2 hN (asks_clique hs2 hN (hT.grow g02))).mono ?_⟩
  rintro e w3 ⟨rfl, g3⟩
  have g03 := g02.trans g3
  refine ⟨_, rfl, ?_⟩
  rw [wrapU (by unfold omega_ at hw; omega)]
  refine (ones_c hw).mono ?_
  rintro e w4 ⟨rfl, g4⟩
  have g04 := g03.trans g4
  refine ⟨_, rfl, fun w5 hw5 => ?_⟩
  have g5 := alloc_grow hw5
  have hb5 := Box.new hw5
  refine ⟨⟨_, hb5.cell⟩, hb5.free, fun w6 hw6 => ?_⟩
  have hb6 := hb5.set hw6
  have f6 := set_fr hw6
  have g46 : Grow w4 w6 := g5.fr f6 fun i hi e => absurd (show i = w4.heap.size from e) (by omega)
  have g06 := g04.trans g46
  refine ⟨v, cl ((g3.trans g4).trans g46), hs.ln ?_⟩
  rw [ofN_len]
  refine ⟨⟨by omega, by omega, by omega, by omega⟩, fun w7 hw7 w8 hw8 => ?_⟩
  have hn : Int.toNat (N.length : Int) = N.length := Int.toNat_natCast _
  rw [hn] at hw7
  simp only [hn]
  have g7 := alloc_grow hw7
  have g8 := alloc_grow hw8
  have s7 := alloc_size hw7
  have s8 := alloc_size hw8
  have ho7 : Own w7 w6.heap.size 3 1 (outV w6.heap.size N.length) N.length (List.replicate N.length (.int .i64 0)) := Own.made hw7 (by omega) (Nat.le_refl _) (by omega)
  have hb8 := Box.new hw8
  refine ⟨⟨rfl, rfl⟩, ⟨_, hb8.cell⟩, hb8.free, fun w9 hw9 w10 hw10 => ?_⟩
  have hb9 := hb8.set hw9
  have f9 := set_fr hw9
  have s9 : w9.heap.size = w8.heap.size := by subst hw9; simp
  have g10 := alloc_grow hw10
  have s10 := alloc_size hw10
  have hb10 := Box.new hw10
  refine ⟨⟨rfl, rfl⟩, ⟨_, hb10.cell⟩, hb10.free, fun w11 hw11 => ?_⟩
  have hb11 := hb10.set hw11
  have f11 := set_fr hw11
  have s11 : w11.heap.size = w10.heap.size := by subst hw11; simp
  have e7 : w7.heap.size = w6.heap.size + 1 := s7
  have e9 : w9.heap.size = w6.heap.size + 2 := by omega
  have g611 : Grow w6 w11 := (((g7.trans g8).fr f9 fun i hi e => by
    have : i = w7.heap.size := e
    omega).trans g10).fr f11 fun i hi e => by
    have : i = w9.heap.size := e
    omega
  have E : TEnv w6 w.heap.size w4.heap.size w6.heap.size v N (pc (omega_ N)) := ⟨rfl, cl ((g3.trans g4).trans g46), hb6.cell, hs.grow g06, hN, hT.grow g06⟩
  have hco : w11.cell? ⟨w6.heap.size + 1, 0, none⟩ = some (outV w6.heap.size N.length) := by
    have := (hb9.grow g10).cell
    rw [e7] at this
    exact f11.cell this fun e => by
      have : w6.heap.size + 1 = w9.heap.size := e
      omega
  have hct : w11.cell? ⟨w6.heap.size + 2, 0, none⟩ = some (tryClo w.heap.size w4.heap.size w6.heap.size) := by
    have := hb11.cell
    rw [e9, e7] at this
    exact this
  have hst : TSt w6 w.heap.size w4.heap.size w6.heap.size N.length w11 := ⟨g611, hco, hct, by omega⟩
  have ho11 : OwnI w11 w6.heap.size (outV w6.heap.size N.length) (ofN (List.replicate N.length 0)) := by
    have h1 : (ofN (List.replicate N.length 0)).length = N.length := by simp
    have h2 : (ofN (List.replicate N.length 0)).map encI = List.replicate N.length (.int .i64 0) := by simp [ofN, encI]
    unfold OwnI
    rw [h1, h2]
    refine ((((ho7.grow g8).fr f9 fun k hk e => ?_).grow g10).fr f11 fun k hk e => ?_)
    · have hk' : w6.heap.size = k := by simpa [outV, Value.ownBlock] using hk
      have : k = w7.heap.size := e
      omega
    · have hk' : w6.heap.size = k := by simpa [outV, Value.ownBlock] using hk
      have : k = w9.heap.size := e
      omega
  have hcall := tryC E (pc_le _) N.length 0 _ w11 hst ho11 (by simp) (by omega)
  refine ⟨_, hb11.cell, _, _, _, rfl, rfl, ?_⟩
  rw [e9, e7]
  refine hcall.mono ?_
  rintro e w12 ⟨b, ys, rfl, hst12, hf12, ho12, hl12, -, htrue, hfalse⟩
  rw [List.take_zero] at htrue hfalse
  refine ⟨b, rfl, _, hst12.co, ?_⟩
  have hys : ys = l := by
    cases b with
    | true =>
      have := htrue rfl
      rw [hl] at this
      exact (Option.some.inj this).symm
    | false =>
      have := hfalse rfl
      rw [hl] at this; cases this
  subst hys
  exact ⟨_, rfl, ho12.slI, g06.trans hst12.gr⟩
/-! ## The reference -/
theorem pappF2 {t ty : TypeId} (hT : ElT Tryd.prog t 3 1 8 (.int .i64 0)) {w w1 : World} {a : Option Addr} {n : Nat} {x : Int} {xs : List Int} (hw : w1 = w.alloc (.cells #[.int .i64 x] 3)) (hv : SlI w (.slice a n n) xs) (hn : n = xs.length) (hlen : xs.length ≤ 1000000) {K : Value → World → Prop}
    (hk : ∀ v' w', OwnI w' w.heap.size v' (xs ++ [x]) → Grow w w' → K v' w') : PApp Tryd.prog t ty (.slice a n n) (.slice (some ⟨w.heap.size, 0, none⟩) 1 1) w1 K := by
  cases a with
  | some b => exact pappF hT hw hv hn hlen hk
  | none =>
    obtain ⟨a', c', he, h1, h2, h3, h4⟩ := hv.ex
    simp only [Value.slice.injEq] at he
    have h0 : c' = 0 := h3 he.1.symm
    have : xs = [] := List.length_eq_zero_iff.1 (by omega)
    subst this
    have hn0 : n = 0 := by simpa using hn
    subst hn0
    refine pappT (xs := []) hT hw (Own.nil w w.heap.size _ 1) (Nat.le_refl _) (by simp) ?_
    intro v' w' ho hf
    exact hk v' w' ho ((alloc_grow hw).fr hf fun i hi e => by simp [Value.ownBlock] at e)
theorem refColored_c {N : List Nat} {k : Nat} (hN : VN N) (hk : k ≤ 12) : ∀ (f : Nat) (xs : List Nat) (w : World) (v u : Value), SlI w v (ofN N) → SlI w u (ofN xs) → xs.length + f = N.length →
    Calls Tryd.prog 94 #[v, u, .int .i64 (k : Int)] w fun e w' => ∃ t, e = .returned t ∧ Grow w w' ∧ (∀ r, cdfs N k f xs = some r → SlI w' t (ofN r)) ∧ (cdfs N k f xs = none → t = .slice none 0 0)
  | 0, xs, w, v, u, hs, hu, hlen => by
    refine f94_calls _ _ _ ?_
    refine hu.ln (hs.ln (condD (fun _ => ?_) (fun h => ?_)))
    · exact ⟨u, rfl, Grow.refl w, fun r hr => by (simp [cdfs] at hr; subst hr; exact hu), fun h => by simp [cdfs] at h⟩
    · simp at h; omega
  | f + 1, xs, w, v, u, hs, hu, hlen => by
    refine f94_calls _ _ _ ?_
    have h12 := hN.le
    refine hu.ln (hs.ln (condD (fun h => by simp at h; omega) (fun _ => ?_)))
    rw [ofN_len]
    refine ⟨fun t w' => ∃ c : Nat, t = c ∧ c ≤ k ∧ Grow w w' ∧ ∀ j, j < c → cdfsF N k f xs j = none, fun t _ => k - t.toNat, ⟨0, rfl, by omega, Grow.refl w, fun j h => by omega⟩, ?_⟩
    rintro - t w1 ⟨c, rfl, hc, g1, hno⟩
    refine condD (fun hlt => ?_) (fun hge => ?_)
    · have hck : c < k := by omega
      have hu1 := hu.grow g1
      have hs1 := hs.grow g1
      refine hu1.ln ?_
      rw [ofN_len]
      let cnd := fun j => !(nb N xs.length).testBit j || decide (gn xs j ≠ c)
      have hE : okC N xs c = (List.range xs.length).all cnd := rfl
      refine ⟨fun ok t w' => ∃ j : Nat, t = j ∧ j ≤ xs.length ∧ ok = (List.range j).all cnd ∧ Grow w1 w', fun _ t _ => xs.length - t.toNat, ⟨0, rfl, by omega, by simp, Grow.refl w1⟩, ?_⟩
      rintro - ok t w3 ⟨j, rfl, hj, rfl, g3⟩
      refine condD (fun hlt2 => ?_) (fun hge2 => ?_)
      · have hjl : j < xs.length := by omega
        refine (hu1.grow g3).rd rfl (by simpa using hjl) ?_
        rw [ofN_get, gn_get (l := xs) hjl]
        refine condP_i (fun hok => (hs1.grow g3).rd rfl (by simp; omega) ?_) (fun hok => ?_)
        · rw [ofN_get, nb_get (N := N)]
          refine ⟨by omega, ?_⟩
          rw [iBit _ (by omega), ibit_nat]
          refine condD (fun hb => ?_) (fun hb => ?_)
          · have hb' : (nb N xs.length).testBit j = false := by cases h : (nb N xs.length).testBit j with | false => rfl | true => simp [h] at hb
            refine ⟨by unfold inR; omega, ⟨j + 1, by omega, by omega, ?_, g3⟩, by dsimp only; omega⟩
            rw [List.range_succ, List.all_append, hok]
            simp [cnd, hb']
          · have hb' : (nb N xs.length).testBit j = true := by cases h : (nb N xs.length).testBit j with | true => rfl | false => simp [h] at hb
            refine ⟨by unfold inR; omega, ⟨j + 1, by omega, by omega, ?_, g3⟩, by dsimp only; omega⟩
            rw [List.range_succ, List.all_append, hok, Bool.eq_iff_iff]
            simp [cnd, hb']
            omega
        · refine ⟨by unfold inR; omega, ⟨j + 1, by omega, by omega, ?_, g3⟩, by dsimp only; omega⟩
          rw [List.range_succ, List.all_append, hok]; rfl
      · have hjl : j = xs.length := by omega
        subst hjl
        rw [← hE]
        have g03 := g1.trans g3
        have next : ∀ {w'}, Grow w w' → cdfsF N k f xs c = none → ∃ c' : Nat, (c : Int) + 1 = c' ∧ c' ≤ k ∧ Grow w w' ∧ ∀ j, j < c' → cdfsF N k f xs j = none := fun hg hd =>
          ⟨c + 1, by omega, by omega, hg, fun j hj => by
            by_cases e : j = c
            · subst e; exact hd
            · exact hno j (by omega)⟩
        refine condP_i (fun hok => ?_) (fun hok => ?_)
        · have hu3 := hu1.grow g3
          have hdF : cdfsF N k f xs c = cdfs N k f (xs ++ [c]) := by unfold cdfsF; rw [if_pos hok]
          obtain ⟨a, cc, rfl, h1, h2, h3, h4⟩ := hu3.ex
          refine ⟨a, _, cc, rfl, 0, xs.length, xs.length, ⟨rfl, ?_, ?_, by simp, by omega, by omega, by simpa using h1⟩, ?_⟩
          · simp [sbOk]
          · simp [sbOk]
          have hval : (Value.slice (if xs.length = 0 then a else Option.map (fun x => x.add (0 * 1)) a) (xs.length - 0) (xs.length - 0)) = .slice a xs.length xs.length := by
            have : ∀ b : Addr, b.add 0 = b := fun b => by unfold Addr.add; simp
            cases a <;> simp [this]
          rw [hval]
          intro w4 hw4
          have hfull : SlI w3 (.slice a xs.length xs.length) (ofN xs) := by
            have e : (ofN xs).length = xs.length := by simp
            refine ⟨a, xs.length, by rw [e], by simp, by omega, fun h => ?_, fun j y hj => h4 j y hj⟩
            have := h3 h
            rw [e] at h1; omega
          refine pappF2 el_int hw4 hfull (by simp) (by simp; omega) ?_
          intro v' w5 ho5 g5
          have g05 := g03.trans g5
          have hnew : SlI w5 v' (ofN (xs ++ [c])) := by rw [ofN_app]; exact ho5.slI
          refine (refColored_c hN hk f (xs ++ [c]) w5 v v' (hs.grow g05) hnew (by simp; omega)).mono ?_
          rintro e6 w6 ⟨t6, rfl, g6, hsome, hnone⟩
          have g06 := g05.trans g6
          refine ⟨t6, rfl, ?_⟩
          cases hd : cdfs N k f (xs ++ [c]) with
          | none =>
            have := hnone hd
            subst this
            refine ⟨false, nilNe (e := 3) (by kernel_rfl), ?_⟩
            exact ⟨by unfold inR; omega, next g06 (by rw [hdF, hd]), by dsimp only; omega⟩
          | some r =>
            have hr := hsome r hd
            obtain ⟨a, c', rfl, h1, h2, h3, h4⟩ := hr.ex
            have hrl : 1 ≤ r.length := by
              have := (cdfs_len hd).1
              simp at this; omega
            have ha : a.isSome = true := by
              obtain ⟨b, hb⟩ := some_of_SlI hr (by simp; omega)
              rw [hb]; rfl
            refine ⟨a.isSome, nilNe (e := 3) (by kernel_rfl), ?_⟩
            rw [ha]
            have hD : cdfs N k (f + 1) xs = some r := some_cidx hck hno (by rw [hdF, hd])
            exact ⟨_, rfl, g06, fun r' hr' => by (rw [hD] at hr'; cases hr'; exact hr), fun h => by rw [hD] at h; cases h⟩
        · exact ⟨by unfold inR; omega, next g03 (by unfold cdfsF; rw [hok]; rfl), by dsimp only; omega⟩
    · have hkN : c = k := by omega
      subst hkN
      have hD : cdfs N c (f + 1) xs = none := none_cidx hno
      exact ⟨.slice none 0 0, rfl, g1, fun (r : List Nat) (hr : cdfs N c (f + 1) xs = some r) => by (rw [hD] at hr; cases hr), fun _ => rfl⟩
theorem refColours_c {w : World} {v : Value} {N : List Nat} (hs : SlI w v (ofN N)) (hN : VN N) {l : List Nat} (hl : cdfs N (pc (omega_ N)) N.length [] = some l) : Calls Tryd.prog 44 #[v] w fun e w' => ∃ u, e = .returned u ∧ SlI w' u (ofN l) ∧ Grow w w' := by
  refine f44_calls _ ?_
  have hw : omega_ N < 4096 := by
    have := bestN_lt (q := cliq N) (k := 2 ^ N.length) (Nat.pow_pos (by omega))
    have := hN.pow
    unfold omega_; omega
  refine (refClique_c hs hN).mono ?_
  rintro e w1 ⟨rfl, g1⟩
  refine ⟨_, rfl, (size_c hw).mono ?_⟩
  rintro e w2 ⟨rfl, g2⟩
  have g02 := g1.trans g2
  refine ⟨_, rfl, fun k w' => k = ((pc (omega_ N) : Nat) : Int) ∧ Grow w w', fun _ _ => 0, ⟨rfl, g02⟩, ?_⟩
  rintro - k w3 ⟨rfl, g3⟩
  refine (refColored_c hN (pc_le _) N.length [] w3 v _ (hs.grow g3) (SlI.nil w3) (by simp)).mono ?_
  rintro e w4 ⟨t, rfl, g4, hsome, -⟩
  have hr := hsome l hl
  have hlen := (cdfs_len hl).1
  have h1 := hN.one
  obtain ⟨a, c', rfl, -⟩ := hr.ex
  have ha : a.isSome = true := by
    obtain ⟨b, hb⟩ := some_of_SlI hr (by simp at hlen ⊢; omega)
    rw [hb]; rfl
  refine ⟨_, rfl, a.isSome, nilNe (e := 3) (by kernel_rfl), ?_⟩
  rw [ha]
  exact ⟨_, rfl, hr, g3.trans g4⟩
end Go.Proofs.YtmpjanpmkmlloaaDoor
