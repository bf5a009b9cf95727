/- Contracts of the reference: what fits. No condition. -/
import Derived.Test.YtmjpnfapjcfejaaGreatDoorMn
import Derived.Test.YtmjpnfapjcfejaaGreatDoorMk
import Derived.Test.YtmjpnfapjcfejaaGreatDoorMm
namespace Go.Proofs.YtmjpnfapjcfejaaGreatDoor
open Go Go.RowKit VC
set_option linter.unusedSimpArgs false
set_option linter.unusedVariables false

/-- The end of a slice of ints. -/
theorem SlI.from_ {w : World} {v : Value} {xs : List Int} (h : SlI w v xs) {i : Nat} {ik : IntKind} {z : Int} (hz : z = (i : Int)) (hi : i ≤ xs.length) {K : Value → Prop} (hk : ∀ v', SlI w v' (xs.drop i) → K v') :
    ∃ (a : Option Addr) (n c : Nat), v = .slice a n c ∧ ∃ l hh m : Nat, sbR (some (.int ik z)) none none n c l hh m ∧ K (.slice (if m = l then a else a.map (·.add (l * 1))) (hh - l) (m - l)) := by
  subst hz
  obtain ⟨a, c, rfl, h1, h2, h3, h4⟩ := h.ex
  have hl : (xs.drop i).length = xs.length - i := by simp
  refine ⟨a, _, c, rfl, i, xs.length, c, ⟨rfl, rfl, rfl, by simp, by omega, by omega, by omega⟩, hk _ ?_⟩
  unfold SlI
  rw [hl]
  refine ⟨if c = i then a else a.map (·.add (i * 1)), c - i, rfl, by omega, by omega, ?_, fun j u hj => ?_⟩
  · intro hn
    split at hn
    · rename_i hc; omega
    · have : a = none := by cases a <;> simp at hn ⊢
      have := h3 this; omega
  · have hj2 : (xs.map encI)[i + j]? = some u := by
      rw [List.map_drop, List.getElem?_drop] at hj
      exact hj
    have hlt := (List.getElem?_eq_some_iff.1 hj2).1
    simp at hlt
    obtain ⟨b, rfl, hc⟩ := h4 (i + j) u hj2
    refine ⟨b.add (i * 1), ?_, ?_⟩
    · rw [if_neg (by omega)]; rfl
    · rw [add_add, Nat.mul_one]; exact hc
theorem set_same {m : Vals} {k : Nat} {y : Int} (hk : k < m.length) (h : m.getD k 0 = y) : m.set k y = m := by
  apply List.ext_getElem (by simp)
  intro i h1 h2
  rw [List.getElem_set]
  split
  · rename_i e
    subst e
    rw [← h]; simp [List.getD, hk]
  · rfl
theorem refFit_c {w : World} {m : Vals} {r s : Int} {u v : Value} {xs ys : List Int} (h8 : m.length = 8) (hx : SlI w u xs) (hy : SlI w v ys) (hT : ∀ x ∈ xs, -9 ≤ x ∧ x ≤ 7) :
    Calls Tryz.prog 108 #[.agg (encV m).toArray, .agg #[.int .i64 r, u], .agg #[.int .i64 s, v]] w (FitR w (fitA m (r, xs) (s, ys))) := by
  refine f108_calls _ _ _ ?_
  refine ⟨_, rfl, fun w1 hw1 => ⟨_, rfl, fun w3 hw3 => ⟨_, rfl, fun w5 hw5 w7 hw7 => ?_⟩⟩⟩
  have g1 := alloc_grow hw1
  have g3 := alloc_grow hw3
  have g5 := alloc_grow hw5
  have g7 := alloc_grow hw7
  have s1 := alloc_size hw1
  have s3 := alloc_size hw3
  have s5 := alloc_size hw5
  have s7 := alloc_size hw7
  have hV : RecV w7 w.heap.size (encV m) := (((RecV.new hw1).grow g3).grow g5).grow g7
  have hA := ((RecV.new hw3).grow g5).grow g7
  have hF := (RecV.new hw5).grow g7
  have hR := RecV.new hw7
  have g07 := ((g1.trans g3).trans g5).trans g7
  have hle := hx.len_le
  have hx7 := hx.grow g07
  have hy7 := hy.grow g07
  have fin : ∀ {w' : World} {m' : Vals} (b : Bool), m'.length = 8 → RecV w' w.heap.size (encV m') → Fr (fun i => i = w.heap.size) w7 w' → fitA m (r, xs) (s, ys) = (if b then some m' else none) →
      ∃ cs : List Value, cs.length = 8 ∧ (∀ (j : Nat) (v : Value), cs[j]? = some v → w'.cell? (Addr.add ⟨w.heap.size, 0, none⟩ j) = some v) ∧ ∃ cs' : Array Value, (Value.agg cs.toArray) = Value.agg cs' ∧ cs'.size = 8 ∧ ∃ w2 : World, (storeCells ⟨w5.heap.size, 0, none⟩ cs'.toList).run Tryz.prog w' = .ok () w2 ∧
        ∃ ds : List Value, ds.length = 8 ∧ (∀ (j : Nat) (v : Value), ds[j]? = some v → w2.cell? (Addr.add ⟨w5.heap.size, 0, none⟩ j) = some v) ∧ FitR w (fitA m (r, xs) (s, ys)) (.returned (.tuple #[(Value.agg ds.toArray), (Value.bool b)])) w2 := fun {w' m'} b hl hr hf ho => by
    refine ⟨_, encV_len m', hr.all, ?_⟩
    refine RecV.store (cs := encV m') (hR.fr hf (by omega)) (by rw [encV_len]; rfl) (encV_one m') fun w2 hf2 hr2 => ⟨encV m', encV_len m', hr2.all, m', b, rfl, ?_, hl, ho⟩
    exact g07.fr (S := fun i => w.heap.size ≤ i) ((hf.mono fun i _ e => by omega).trans (hf2.mono fun i _ e => by omega)) fun i hi e => by omega
  refine ⟨r, hA.cell (j := 0) rfl, s, hF.cell (j := 0) rfl, condP_i (fun h => ?_) fun h => ?_⟩
  · have h : ¬ r = s := by simpa using h
    exact fin false h8 hV (Fr.refl _ _) (by rw [fitA, if_neg h]; rfl)
  have hrs : r = s := by simpa using h
  have eA : fitA m (r, xs) (s, ys) = fitL m xs ys := by rw [fitA, if_pos hrs]
  refine ⟨u, hA.cell (j := 1) rfl, hx7.ln ⟨v, hF.cell (j := 1) rfl, hy7.ln (condP_i (fun h => ?_) fun h => ?_)⟩⟩
  · have h : ¬ xs.length = ys.length := by simp at h; omega
    exact fin false h8 hV (Fr.refl _ _) (by rw [eA, fitL_ne h]; rfl)
  have hl : xs.length = ys.length := by simp at h; omega
  refine ⟨u, hA.cell (j := 1) rfl, hx7.ln ⟨fun t w' => ∃ (k : Nat) (m' : Vals), t = k ∧ k ≤ xs.length ∧ m'.length = 8 ∧ RecV w' w.heap.size (encV m') ∧ Fr (fun i => i = w.heap.size) w7 w' ∧ fitL m xs ys = fitL m' (xs.drop k) (ys.drop k), fun t _ => xs.length - t.toNat, ⟨0, m, rfl, by omega, h8, hV, Fr.refl _ _, rfl⟩, ?_⟩⟩
  rintro - t w34 ⟨k, m', rfl, hk, hl8, hr, hf, he⟩
  have gx : ∀ {u : Value} {zs : List Int}, SlI w u zs → ∀ {w'}, Fr (fun i => i = w.heap.size) w7 w' → SlI w' u zs := fun {u zs} hs {w'} hf => hs.grow (g07.fr hf fun i hi e => by omega)
  refine condD (fun hlt => ?_) (fun hge => ?_)
  · have hkl : k < xs.length := by omega
    have hky : k < ys.length := by omega
    have hxk := hT _ (List.getElem_mem hkl)
    rw [List.drop_eq_getElem_cons hkl, List.drop_eq_getElem_cons hky, fitL] at he
    have fd : ∀ m : DM w34, Fr (fun i => i = w.heap.size) w7 (dr w34 m) := fun m => hf.trans (Fr.of_grow ((Grow.refl w34).dr m))
    have rd : ∀ m : DM w34, RecV (dr w34 m) w.heap.size (encV m') := fun m => hr.grow ((Grow.refl w34).dr m)
    refine (gx hx hf).rd rfl hkl (condD (fun hneg => ?_) fun hpos => ?_)
    · have e0 : ofV m' xs[k] = - xs[k] := by rw [ofV, if_pos hneg]
      rw [e0, if_neg (by omega)] at he
      refine ⟨v, (hF.fr hf (by omega)).cell (j := 1) rfl, (gx hy hf).rd rfl hky ⟨by unfold inR; omega, condP_i (fun h1 => ?_) fun h1 => ?_⟩⟩
      · have h1 : ¬ ys[k] = 0 - xs[k] := by simpa using h1
        rw [if_neg (by omega)] at he
        exact fin false hl8 hr hf (by rw [eA, he]; rfl)
      · have h1 : ys[k] = 0 - xs[k] := by simpa using h1
        rw [if_pos (by omega)] at he
        refine cF (decide_eq_false (by omega)) fun m => cF (decide_eq_false (by omega)) ?_
        exact ⟨by unfold inR; omega, ⟨k + 1, m', by omega, by omega, hl8, rd m, fd m, he⟩, by dsimp only; omega⟩
    · obtain ⟨x, hx'⟩ : ∃ x : Nat, xs[k] = x := ⟨xs[k].toNat, by omega⟩
      have e0 : ofV m' xs[k] = m'.getD x 0 := by rw [ofV, if_neg (by omega), hx', Int.toNat_natCast]
      rw [e0, hx', Int.toNat_natCast] at he
      rw [hx'] at hxk hpos ⊢
      have hx8 : x < 8 := by omega
      have st : ∀ q : DM w34, (m'.getD x 0 = 0 ∨ m'.getD x 0 = ys[k]) → ∃ t : Value, (dr w34 q).cell? (Addr.add ⟨w3.heap.size, 0, none⟩ 1) = some t ∧ ∃ (a : Addr) (n c : Nat), t = Value.slice (some a) n c ∧ ((0 : Int) ≤ (k : Int) ∧ (k : Int) < (n : Int)) ∧ ∃ y : Int, (dr w34 q).cell? (a.add (Int.toNat (k : Int) * 1)) = some (Value.int .i64 y) ∧ ((0 : Int) ≤ (x : Int) ∧ (x : Int) < ((8 : Nat) : Int)) ∧ (∃ old, (dr w34 q).cell? (Addr.add ⟨w.heap.size, 0, none⟩ (Int.toNat (x : Int) * 1)) = some old) ∧ (dr w34 q).frozen? (Addr.add ⟨w.heap.size, 0, none⟩ (Int.toNat (x : Int) * 1)) = false ∧ ∀ w2, w2 = (dr w34 q).setCell (Addr.add ⟨w.heap.size, 0, none⟩ (Int.toNat (x : Int) * 1)) (Value.int .i64 y) →
          inR ((k : Int) + 1) ∧ ((∃ (k' : Nat) (m' : Vals), (k : Int) + 1 = k' ∧ k' ≤ xs.length ∧ m'.length = 8 ∧ RecV w2 w.heap.size (encV m') ∧ Fr (fun i => i = w.heap.size) w7 w2 ∧ fitL m xs ys = fitL m' (xs.drop k') (ys.drop k')) ∧ xs.length - Int.toNat ((k : Int) + 1) < xs.length - Int.toNat (k : Int)) := fun q hok => by
        refine ⟨v, (hF.fr (fd q) (by omega)).cell (j := 1) rfl, (gx hy (fd q)).rd rfl hky ⟨by omega, ⟨_, by rw [Int.toNat_natCast]; exact cells8 (rd q) hx8⟩, by rw [Nat.mul_one]; exact (rd q).free _, fun w2 hw2 => ?_⟩⟩
        have hw2' : w2 = (dr w34 q).setCell (Addr.add ⟨w.heap.size, 0, none⟩ x) (encI ys[k]) := by rw [hw2, Nat.mul_one, encI, Int.toNat_natCast]
        refine ⟨by unfold inR; omega, ⟨k + 1, m'.set x ys[k], by omega, by omega, by simpa using hl8, ?_, (fd q).trans (RecV.set_fr hw2'), ?_⟩, by omega⟩
        · rw [← encV_set hl8 hx8]
          exact (rd q).set hw2'
        · rcases hok with h | h
          · rw [he, if_pos h]
          · rw [set_same (by omega) h, he]
            split
            · rw [set_same (by omega) h]
            · first | rfl | rw [if_pos h]
      refine cT (decide_eq_true (by omega)) ⟨by omega, m'.getD x 0, by rw [Int.toNat_natCast]; exact cells8 hr hx8, condP_i (fun h0 => ?_) fun h0 => ?_⟩
      · have h0 : ¬ m'.getD x 0 = 0 := by simpa using h0
        refine ⟨by omega, m'.getD x 0, by rw [Int.toNat_natCast]; exact cells8 hr hx8, v, (hF.fr hf (by omega)).cell (j := 1) rfl, (gx hy hf).rd rfl hky fun m => condP_i (fun h1 => ?_) fun h1 => ?_⟩
        · have h1 : ¬ m'.getD x 0 = ys[k] := by simpa using h1
          rw [if_neg h0, if_neg h1] at he
          exact fin false hl8 (rd m) (fd m) (by rw [eA, he]; rfl)
        · have h1 : m'.getD x 0 = ys[k] := by simpa using h1
          exact cT (decide_eq_true (by omega)) (st m (.inr h1))
      · have h0 : m'.getD x 0 = 0 := by simpa using h0
        exact fun m => cT (decide_eq_true (by omega)) (st m (.inl h0))
  · have hkl : k = xs.length := by omega
    subst hkl
    rw [List.drop_length, hl, List.drop_length] at he
    exact fin true hl8 hr hf (by rw [eA, he]; rfl)
end Go.Proofs.YtmjpnfapjcfejaaGreatDoor

/- Contracts of the reference: all matches, results and their number. No condition. -/
namespace Go.Proofs.YtmjpnfapjcfejaaGreatDoor
open Go Go.RowKit VC
set_option linter.unusedSimpArgs false
set_option linter.unusedVariables false

theorem el_arr : ElT Tryz.prog 110 61 8 64 zV := ⟨by kernel_rfl, ⟨Tryz.t61, by kernel_rfl, by kernel_rfl, by kernel_rfl, by kernel_rfl⟩, rfl⟩
theorem ins_map {x : Atm} : ∀ {L : List Atm}, insK id (keyA x) (L.map keyA) = (insK keyA x L).map keyA
  | [] => rfl
  | y :: r => by
    simp only [List.map_cons, insK, id]
    split
    · rw [List.map_cons, ins_map]
    · split <;> rfl
theorem str_map {L : List Atm} (h : StrK keyA L) : StrK id (L.map keyA) := by
  unfold StrK
  rw [List.pairwise_map]
  exact h
abbrev OwnW (w : World) (B : Nat) (v : Value) (ms : List Vals) : Prop := Own w B 61 8 v ms.length (ms.flatMap encV)
theorem OwnW.slV {w : World} {B : Nat} {v : Value} {ms : List Vals} (h : OwnW w B v ms) : SlV w v ms := Own.slR h
/-- Between the rounds over the keys. -/
structure InK (w43 : World) (C : Nat) (fs : List Atm) (ms : List Vals) (a : Atm) (i j : Nat) (hi : i < ms.length) (next : Value) (w' : World) (N : List Vals) : Prop where
  eq : N = stepM fs (ms.take i) a ++ (fs.take j).filterMap (fitA ms[i] a)
  few : N.length ≤ 20000 + j
  own : OwnW w' w43.heap.size next N
  off : ∀ b, next.ownBlock = some b → b ≠ C
  rc : RecV w' C (encV ms[i])
  fr : Fr (fun b => w43.heap.size ≤ b) w43 w'
/-- All matches, or that there are too many: error 3. -/
def MatE (w : World) (o : Option (List Vals)) : Ending → World → Prop := fun e w' => Grow w w' ∧ ((∃ v ms, e = .returned (.tuple #[v, .int .i64 0]) ∧ o = some ms ∧ SlV w' v ms) ∨ (e = .returned (.tuple #[.slice none 0 0, .int .i64 3]) ∧ o = none))
theorem refMatches_c {w : World} {hv bv facts : Value} {b l : List Atm} (hb : SlA w bv b) (hl : SlA w facts l) (okB : ∀ a ∈ b, TermA a) (hbl : b.length ≤ 1000) (hf : okFs l = true) :
    Calls Tryz.prog 77 #[.agg #[hv, bv], facts] w (MatE w (runF l b)) := by
  have hpos := okF_pos hf
  have hlen : l.length ≤ 24 := by
    simp only [okFs, Bool.and_eq_true, decide_eq_true_eq] at hf
    exact hf.1
  have harg : ∀ f ∈ l, f.2.length ≤ 3 := fun f h => by
    simp only [okFs, Bool.and_eq_true, List.all_eq_true] at hf
    exact (okF_iff.1 (hf.2 f h)).2.2.2.1
  refine f77_calls _ _ ?_
  refine ⟨_, rfl, fun w1 hw1 => ?_⟩
  have g1 := alloc_grow hw1
  refine bs1 el_arr (by omega) (by omega) (cs := (encV zeroV).toArray) (by simp [encV_len]) w1 fun w3 hw3 => ?_
  have g3 := alloc_grow hw3
  have g03 := g1.trans g3
  have hnow0 : OwnW w3 w1.heap.size (.slice (some ⟨w1.heap.size, 0, none⟩) 1 1) [zeroV] := by
    have := Own.lit (B := w1.heap.size) (n := 1) (sz := 8) hw3 (Nat.le_refl _) (by omega) (by simp [encV_len])
    simpa [OwnW] using this
  refine SlX.ln (hl.gr g03) ⟨fun keys t w' => ∃ k : Nat, t = k ∧ k ≤ l.length ∧ SlL w' keys ((srtF (l.take k)).map keyA) ∧ Grow w3 w', fun _ t _ => l.length - t.toNat, ⟨0, rfl, by omega, SlX.nil _, Grow.refl _⟩, ?_⟩
  rintro - keys t w13 ⟨k, rfl, hk, hkeys, g13⟩
  have g013 := g03.trans g13
  refine condD (fun hlt => ?_) (fun hge => ?_)
  · have hkl : k < l.length := by omega
    refine SlX.loc (hl.gr g013) rfl hkl rfl fun w19 u g19 _ hu c0 c1 => ?_
    refine ⟨[_, _], rfl, two c0 c1, (refKey_c hu (by have := harg _ (List.getElem_mem hkl); omega)).mono ?_⟩
    rintro e w22 ⟨kv, rfl, hkv, g22⟩
    have hkl2 : ((srtF (l.take k)).map keyA).length ≤ 100 := by
      have h1 := len_srt (key := keyA) (l.take k)
      rw [List.length_take] at h1
      rw [List.length_map]
      show (srtK keyA (l.take k)).length ≤ 100
      omega
    refine ⟨kv, rfl, (put_c (hkeys.gr (g19.trans g22)) (str_map (str_srt key_A _)) hkv (by omega)).mono ?_⟩
    rintro e w25 ⟨v, rfl, hv, g25⟩
    refine ⟨v, rfl, by unfold inR; omega, ⟨k + 1, by omega, by omega, ?_, g13.trans ((g19.trans g22).trans g25)⟩, by dsimp only; omega⟩
    rw [List.take_succ_eq_append_getElem hkl]
    show SlL w25 v ((srtK keyA (l.take k ++ [l[k]])).map keyA)
    rw [srt_app, ← ins_map]
    exact hv
  have hkl : k = l.length := by omega
  subst hkl
  rw [List.take_length] at hkeys
  obtain ⟨fs, hfs⟩ : ∃ fs, fs = srtF l := ⟨_, rfl⟩
  rw [← hfs] at hkeys
  have hmem : ∀ f, f ∈ fs ↔ f ∈ l := fun f => by rw [hfs]; exact mem_srt key_A
  have hfp : PosF fs := fun f h => hpos f ((hmem f).1 h)
  have hfl : fs.length ≤ 24 := by rw [hfs]; exact Nat.le_trans (len_srt l) hlen
  refine ⟨bv, (g3.trans g13).cell (boxc hw1 1 _ rfl), SlX.ln (hb.gr g013) ?_⟩
  refine ⟨fun now t w' => ∃ (k : Nat) (ms : List Vals), t = k ∧ k ≤ b.length ∧ SlV w' now ms ∧ (∀ m ∈ ms, m.length = 8) ∧ runM fs [zeroV] b = runM fs ms (b.drop k) ∧ ms.length ≤ 20000 ∧ Grow w13 w', fun _ t _ => b.length - t.toNat,
    ⟨0, [zeroV], rfl, by omega, SlR.grow (OwnW.slV hnow0) g13, by
      intro m hm
      simp at hm
      subst hm; rfl, rfl, by simp, Grow.refl _⟩, ?_⟩
  rintro - now t w37 ⟨k, ms, rfl, hk, hnow, h8, hrun, hms, g37⟩
  have g037 := g013.trans g37
  refine condD (fun hlt => ?_) (fun hge => ?_)
  · have hkl : k < b.length := by omega
    obtain ⟨a, ha⟩ : ∃ a, a = b[k] := ⟨_, rfl⟩
    have hTa : TermA a := ha ▸ okB _ (List.getElem_mem hkl)
    rw [List.drop_eq_getElem_cons hkl, ← ha, runM] at hrun
    have h8s : ∀ n ∈ stepM fs ms a, n.length = 8 := step_len8 h8 hTa hfp
    refine SlX.loc (hb.gr g037) rfl hkl rfl fun w43 u g43 s43 hu c0 c1 => ?_
    rw [← ha] at hu c0
    refine SlR.ln hnow ⟨fun next t w' => ∃ (i : Nat) (N : List Vals), t = i ∧ i ≤ ms.length ∧ N = stepM fs (ms.take i) a ∧ N.length ≤ 20000 ∧ OwnW w' w43.heap.size next N ∧ Fr (fun b => w43.heap.size ≤ b) w43 w', fun _ t _ => ms.length - t.toNat,
      ⟨0, [], rfl, by omega, by simp [stepM], by simp, Own.nil _ _ _ _, Fr.refl _ _⟩, ?_⟩
    rintro - next t w53 ⟨i, N, rfl, hi, hN, hN2, hown, hfr⟩
    have gF : ∀ {w'}, Fr (fun b => w43.heap.size ≤ b) w43 w' → Grow w43 w' := fun hf => (Grow.refl _).fr hf fun i hi e => by omega
    have g53 := gF hfr
    refine condD (fun hlt2 => ?_) (fun hge2 => ?_)
    · have hil : i < ms.length := by omega
      have h8i := h8 _ (List.getElem_mem hil)
      refine SlV.loc (SlR.grow hnow (g43.trans g53)) rfl hil rfl fun w59 g59 s59 hC => ?_
      have hfr59 := hfr.trans (Fr.of_grow g59)
      have gk : ∀ {w'}, Fr (fun b => w43.heap.size ≤ b) w43 w' → Grow w13 w' := fun hf => (g37.trans g43).trans (gF hf)
      refine SlX.ln (hkeys.gr (gk hfr59)) ⟨fun next t w' => ∃ (j : Nat) (N : List Vals), t = j ∧ j ≤ fs.length ∧ InK w43 w53.heap.size fs ms a i j hil next w' N, fun _ t _ => fs.length - t.toNat,
        ⟨0, N, rfl, by omega, ⟨by simpa using hN, by omega, Own.grow hown g59, fun b hb e => by have := (Own.lt hown hb).2; omega, hC, hfr59⟩⟩, ?_⟩
      rintro - next t w69 ⟨j, N, rfl, hj, hI⟩
      refine condD (fun hlt3 => ?_) (fun hge3 => ?_)
      · have hjl : j < fs.length := by
          rw [List.length_map] at hlt3
          omega
        refine SlL.rd1 (hkeys.gr (gk hI.fr)) rfl (by rw [List.length_map]; exact hjl) fun ku hku m => ?_
        rw [List.getElem_map] at hku
        have gm : Grow w69 (dr w69 m) := (Grow.refl w69).dr m
        obtain ⟨E0, hE0⟩ : ∃ E0, E0 = dr w69 m := ⟨_, rfl⟩
        rw [← hE0] at gm
        rw [← hE0]
        have hcs : w43.heap.size ≤ w53.heap.size := hfr.size
        have hs69 := hI.rc.lt
        have hq : SlI w69 ku (fs[j].1 :: fs[j].2) := hku
        obtain ⟨ka, kn, kc, ek, hb0, tk, htk, htk2⟩ := hq.rd (i := 0) (j := 0) rfl (by simp) (K := fun t => t = fs[j].1) rfl
        subst htk2
        obtain ⟨a1, n1, c1', e1, l1, h1, m1, b1, hsv⟩ := SlI.from_ (ik := .i64) (z := 1) (i := 1) (K := fun x => SlI w69 x fs[j].2) hq rfl (by simp) fun _ h => by simpa using h
        refine ⟨ka, kn, kc, ek, hb0, a1, n1, c1', e1, l1, h1, m1, b1, ?_⟩
        obtain ⟨sv, esv⟩ : ∃ sv, sv = (Value.slice (if m1 = l1 then a1 else a1.map (·.add (l1 * 1))) (h1 - l1) (m1 - l1)) := ⟨_, rfl⟩
        rw [← esv] at hsv
        rw [← esv]
        have fE : ∀ {w'}, Grow E0 w' → Fr (fun b => w43.heap.size ≤ b) w43 w' := fun g => hI.fr.trans (Fr.of_grow (gm.trans g))
        -- behind the call: the result lies in block blk
        have tail : ∀ {w' : World} {blk : Nat} {m' : Vals} {ok : Bool}, Grow E0 w' → E0.heap.size ≤ blk → RecV w' blk (encV m') → m'.length = 8 → fitA ms[i] a fs[j] = (if ok then some m' else none) →
            condP ok (∃ cs : List Value, cs.length = 8 ∧ (∀ (j : Nat) (v : Value), cs[j]? = some v → w'.cell? (Addr.add ⟨blk, 0, none⟩ j) = some v) ∧ ∃ t : Value, ∃ w2 : World, (Instr.buildSlice 110 1 #[(0, (Value.agg cs.toArray))]).run Tryz.prog w' = .ok t w2 ∧ PApp Tryz.prog 110 110 next t w2 fun v2 w3 => inR ((j : Int) + 1) ∧ ((∃ (j' : Nat) (N : List Vals), (j : Int) + 1 = j' ∧ j' ≤ fs.length ∧ InK w43 w53.heap.size fs ms a i j' hil v2 w3 N) ∧ fs.length - Int.toNat ((j : Int) + 1) < fs.length - Int.toNat (j : Int)))
              (inR ((j : Int) + 1) ∧ ((∃ (j' : Nat) (N : List Vals), (j : Int) + 1 = j' ∧ j' ≤ fs.length ∧ InK w43 w53.heap.size fs ms a i j' hil next w' N) ∧ fs.length - Int.toNat ((j : Int) + 1) < fs.length - Int.toNat (j : Int))) := fun {w' blk m' ok} g hblk hW h8' hfit => by
          have g69 := gm.trans g
          cases ok with
          | false =>
            refine cF rfl ⟨by unfold inR; omega, ⟨j + 1, N, by omega, by omega, ⟨?_, by have := hI.few; omega, Own.grow hI.own g69, hI.off, hI.rc.grow g69, fE g⟩⟩, by omega⟩
            rw [fm_take hjl, show fitA ms[i] a fs[j] = none from hfit]
            simpa using hI.eq
          | true =>
            have hfit : fitA ms[i] a fs[j] = some m' := hfit
            refine cT rfl ⟨_, encV_len m', hW.all, bs1 el_arr (by omega) (by omega) (cs := (encV m').toArray) (by simp [encV_len]) w' fun w78 hw78 => ?_⟩
            have g78 := alloc_grow hw78
            have hNf := hI.few
            refine pappRk el_arr (by omega) encV_len encV_one hw78 (Own.grow hI.own g69) (by have := (fE g).size; omega) (by omega) (by omega) ?_
            intro v2 w81 ho2 hf2 hbl
            refine ⟨by unfold inR; omega, ⟨j + 1, N ++ [m'], by omega, by omega, ⟨?_, by simp; omega, ho2, fun b hb e => ?_, ?_, ?_⟩⟩, by omega⟩
            · rw [fm_take hjl, hfit, ← List.append_assoc, ← hI.eq]
            · rcases hbl b hb with h | h
              · exact hI.off b h.symm e
              · have := g69.size
                omega
            · exact ((hI.rc.grow g69).grow g78).fr hf2 fun e => hI.off _ e.symm rfl
            · refine (fE g).trans ((Fr.of_grow g78).trans (hf2.mono fun b _ e => ?_))
              exact (Own.lt hI.own e.symm).1
        have call : ∀ {w' : World} {Q : Ending → World → Prop}, Grow E0 w' → (∀ e w2, FitR w' (fitA ms[i] a fs[j]) e w2 → Q e w2) → Calls Tryz.prog 108 #[.agg (encV ms[i]).toArray, .agg #[.int .i64 a.1, u], .agg #[.int .i64 fs[j].1, sv]] w' Q := fun {w' Q} g h =>
          (refFit_c (m := ms[i]) h8i (hu.grow (gF (fE g))) (hsv.grow (gm.trans g)) hTa).mono h
        have mm : ∀ {w'}, Grow E0 w' → ∀ (t : Nat) (v : Value), (encV ms[i])[t]? = some v → w'.cell? (Addr.add ⟨w53.heap.size, 0, none⟩ t) = some v := fun g => (hI.rc.grow (gm.trans g)).all
        have aa : ∀ {w'}, Grow E0 w' → ∀ (t : Nat) (v : Value), [Value.int .i64 a.1, u][t]? = some v → w'.cell? (Addr.add ⟨w37.heap.size, 0, none⟩ t) = some v := fun g => two ((gF (fE g)).cell c0) ((gF (fE g)).cell c1)
        have kk : ∀ {w'}, Grow E0 w' → w'.cell? (ka.add (Int.toNat 0 * 1)) = some (Value.int .i64 fs[j].1) := fun g => (gm.trans g).cell htk
        have ov : oneV sv := hsv.one
        have gA : ∀ {o : Obj}, Grow E0 (E0.alloc o) := (Grow.refl _).alloc _
        have r0 : Grow E0 E0 := Grow.refl _
        repeat' first
          | exact ov
          | refine ⟨_, encV_len ms[i], mm r0, ?_⟩
          | refine ⟨_, encV_len ms[i], mm gA, ?_⟩
          | refine ⟨[_, _], rfl, aa r0, ?_⟩
          | refine ⟨[_, _], rfl, aa gA, ?_⟩
          | refine ⟨_, kk r0, ?_⟩
          | refine ⟨_, kk gA, ?_⟩
          | (refine call r0 ?_
             rintro e w87 ⟨m', ok, rfl, g87, h8', hfit⟩
             refine ⟨_, _, rfl, fun w91 hw91 => RecV.init (cs := encV m') hw91 (by rw [encV_len]; rfl) (encV_one _) fun w92 g92 _ hW => ?_⟩
             exact tail (g87.trans g92) g87.size hW h8' hfit)
          | (refine call gA ?_
             rintro e w87 ⟨m', ok, rfl, g87, h8', hfit⟩
             refine ⟨_, _, rfl, RecV.store (cs := encV m') ((RecV.new rfl).grow g87) (by rw [encV_len]; rfl) (encV_one _) fun w92 hf92 hW => ?_⟩
             exact tail ((gA.trans g87).fr hf92 fun b hb e => by omega) (Nat.le_refl _) hW h8' hfit)
          | (rintro w91 rfl)
          | refine And.intro ?_ ?_
      · have hjl : j = fs.length := by
          rw [List.length_map] at hge3
          omega
        subst hjl
        have hN2 : N = stepM fs (ms.take (i + 1)) a := by rw [hI.eq, List.take_length, step_take hil]
        refine SlR.ln (OwnW.slV hI.own) (condD (fun hbig => ?_) fun hsmall => ?_)
        · refine ⟨g037.trans (g43.trans (gF hI.fr)), .inr ⟨rfl, ?_⟩⟩
          unfold runF
          rw [← hfs, hrun, if_neg]
          have e3 : stepM fs (ms.take (i + 1) ++ ms.drop (i + 1)) a = stepM fs (ms.take (i + 1)) a ++ stepM fs (ms.drop (i + 1)) a := by
            unfold stepM
            rw [List.flatMap_append]
          rw [List.take_append_drop] at e3
          rw [e3, ← hN2, List.length_append]
          omega
        · exact ⟨by unfold inR; omega, ⟨i + 1, N, by omega, by omega, hN2, by omega, hI.own, hI.fr⟩, by dsimp only; omega⟩
    · have hil : i = ms.length := by omega
      subst hil
      rw [List.take_length] at hN
      subst hN
      refine ⟨by unfold inR; omega, ⟨k + 1, _, by omega, by omega, OwnW.slV hown, h8s, ?_, hN2, (g37.trans g43).trans g53⟩, by dsimp only; omega⟩
      rw [hrun, if_pos hN2]
  · have hkl : k = b.length := by omega
    subst hkl
    rw [List.drop_length] at hrun
    refine ⟨g037, .inl ⟨now, ms, rfl, ?_, hnow⟩⟩
    unfold runF
    rw [← hfs, hrun, runM]
end Go.Proofs.YtmjpnfapjcfejaaGreatDoor
