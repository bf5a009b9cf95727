/- Contracts of the reference: all matches, results and their number. No condition. -/
import Derived.Test.YtjkphmbjdleppaaGreatMo
import Derived.Test.YtjkphmbjdleppaaGreatMm
namespace Go.Proofs.YtjkphmbjdleppaaGreat
open Go Go.RowKit VC
set_option linter.unusedSimpArgs false
set_option linter.unusedVariables false

theorem el_arr : ElT Tryz.prog 75 78 8 64 zV := ⟨by kernel_rfl, ⟨Tryz.t78, by kernel_rfl, by kernel_rfl, by kernel_rfl, by kernel_rfl⟩, rfl⟩
theorem ins_map {x : Atm} : ∀ {L : List Atm}, insK id (keyA x) (L.map keyA) = (insK keyA x L).map keyA
  | [] => rfl
  | y :: r => by
    simp only [List.map_cons, insK, id]
    split
    · rw [List.map_cons, ins_map]
    · split <;> rfl
theorem str_map {L : List Atm} (h : StrK keyA L) : StrK id (L.map keyA) := by
  unfold StrK
  rw [List.pairwise_map]
  exact h
abbrev OwnW (w : World) (B : Nat) (v : Value) (ms : List Vals) : Prop := Own w B 78 8 v ms.length (ms.flatMap encV)
theorem OwnW.slV {w : World} {B : Nat} {v : Value} {ms : List Vals} (h : OwnW w B v ms) : SlV w v ms := Own.slR h
/-- Between the rounds over the keys. -/
structure InK (w43 : World) (C : Nat) (fs : List Atm) (ms : List Vals) (a : Atm) (i j : Nat) (hi : i < ms.length) (next : Value) (w' : World) (N : List Vals) : Prop where
  eq : N = stepM fs (ms.take i) a ++ (fs.take j).filterMap (fitA ms[i] a)
  few : N.length ≤ 20000 + j
  own : OwnW w' w43.heap.size next N
  off : ∀ b, next.ownBlock = some b → b ≠ C
  rc : RecV w' C (encV ms[i])
  fr : Fr (fun b => w43.heap.size ≤ b) w43 w'
/-- All matches, or that there are too many: error 3. -/
def MatE (w : World) (o : Option (List Vals)) : Ending → World → Prop := fun e w' => Grow w w' ∧ ((∃ v ms, e = .returned (.tuple #[v, .int .i64 0]) ∧ o = some ms ∧ SlV w' v ms) ∨ (e = .returned (.tuple #[.slice none 0 0, .int .i64 3]) ∧ o = none))
theorem refMatches_c {w : World} {hv bv facts : Value} {b l : List Atm} (hb : SlA w bv b) (hl : SlA w facts l) (okB : ∀ a ∈ b, TermA a) (hbl : b.length ≤ 1000) (hf : okFs l = true) :
    Calls Tryz.prog 44 #[.agg #[hv, bv], facts] w (MatE w (runF l b)) := by
  have hpos := okF_pos hf
  have hlen : l.length ≤ 24 := by
    simp only [okFs, Bool.and_eq_true, decide_eq_true_eq] at hf
    exact hf.1
  have harg : ∀ f ∈ l, f.2.length ≤ 3 := fun f h => by
    simp only [okFs, Bool.and_eq_true, List.all_eq_true] at hf
    exact (okF_iff.1 (hf.2 f h)).2.2.2.1
  refine f44_calls _ _ ?_
  refine ⟨_, rfl, fun w1 hw1 => ?_⟩
  have g1 := alloc_grow hw1
  refine bs1 el_arr (by omega) (by omega) (cs := (encV zeroV).toArray) (by simp [encV_len]) w1 fun w3 hw3 => ?_
  have g3 := alloc_grow hw3
  have g03 := g1.trans g3
  have hnow0 : OwnW w3 w1.heap.size (.slice (some ⟨w1.heap.size, 0, none⟩) 1 1) [zeroV] := by
    have := Own.lit (B := w1.heap.size) (n := 1) (sz := 8) hw3 (Nat.le_refl _) (by omega) (by simp [encV_len])
    simpa [OwnW] using this
  refine SlX.ln (hl.gr g03) ⟨fun keys t w' => ∃ k : Nat, t = k ∧ k ≤ l.length ∧ SlL w' keys ((srtF (l.take k)).map keyA) ∧ Grow w3 w', fun _ t _ => l.length - t.toNat, ⟨0, rfl, by omega, SlX.nil _, Grow.refl _⟩, ?_⟩
  rintro - keys t w13 ⟨k, rfl, hk, hkeys, g13⟩
  have g013 := g03.trans g13
  refine condD (fun hlt => ?_) (fun hge => ?_)
  · have hkl : k < l.length := by omega
    refine SlX.loc (hl.gr g013) rfl hkl rfl fun w19 u g19 _ hu c0 c1 => ?_
    refine ⟨[_, _], rfl, two c0 c1, (refKey_c hu (by have := harg _ (List.getElem_mem hkl); omega)).mono ?_⟩
    rintro e w22 ⟨kv, rfl, hkv, g22⟩
    have hkl2 : ((srtF (l.take k)).map keyA).length ≤ 100 := by
      have h1 := len_srt (key := keyA) (l.take k)
      rw [List.length_take] at h1
      rw [List.length_map]
      show (srtK keyA (l.take k)).length ≤ 100
      omega
    refine ⟨kv, rfl, (put_c (hkeys.gr (g19.trans g22)) (str_map (str_srt key_A _)) hkv (by omega)).mono ?_⟩
    rintro e w25 ⟨v, rfl, hv, g25⟩
    refine ⟨v, rfl, by unfold inR; omega, ⟨k + 1, by omega, by omega, ?_, g13.trans ((g19.trans g22).trans g25)⟩, by dsimp only; omega⟩
    rw [List.take_succ_eq_append_getElem hkl]
    show SlL w25 v ((srtK keyA (l.take k ++ [l[k]])).map keyA)
    rw [srt_app, ← ins_map]
    exact hv
  have hkl : k = l.length := by omega
  subst hkl
  rw [List.take_length] at hkeys
  obtain ⟨fs, hfs⟩ : ∃ fs, fs = srtF l := ⟨_, rfl⟩
  rw [← hfs] at hkeys
  have hmem : ∀ f, f ∈ fs ↔ f ∈ l := fun f => by rw [hfs]; exact mem_srt key_A
  have hfp : PosF fs := fun f h => hpos f ((hmem f).1 h)
  have hfl : fs.length ≤ 24 := by rw [hfs]; exact Nat.le_trans (len_srt l) hlen
  refine ⟨bv, (g3.trans g13).cell (boxc hw1 1 _ rfl), SlX.ln (hb.gr g013) ?_⟩
  refine ⟨fun now t w' => ∃ (k : Nat) (ms : List Vals), t = k ∧ k ≤ b.length ∧ SlV w' now ms ∧ (∀ m ∈ ms, m.length = 8) ∧ runM fs [zeroV] b = runM fs ms (b.drop k) ∧ ms.length ≤ 20000 ∧ Grow w13 w', fun _ t _ => b.length - t.toNat,
    ⟨0, [zeroV], rfl, by omega, SlR.grow (OwnW.slV hnow0) g13, by
      intro m hm
      simp at hm
      subst hm; rfl, rfl, by simp, Grow.refl _⟩, ?_⟩
  rintro - now t w37 ⟨k, ms, rfl, hk, hnow, h8, hrun, hms, g37⟩
  have g037 := g013.trans g37
  refine condD (fun hlt => ?_) (fun hge => ?_)
  · have hkl : k < b.length := by omega
    obtain ⟨a, ha⟩ : ∃ a, a = b[k] := ⟨_, rfl⟩
    have hTa : TermA a := ha ▸ okB _ (List.getElem_mem hkl)
    rw [List.drop_eq_getElem_cons hkl, ← ha, runM] at hrun
    have h8s : ∀ n ∈ stepM fs ms a, n.length = 8 := step_len8 h8 hTa hfp
    refine SlX.loc (hb.gr g037) rfl hkl rfl fun w43 u g43 s43 hu c0 c1 => ?_
    rw [← ha] at hu c0
    refine SlR.ln hnow ⟨fun next t w' => ∃ (i : Nat) (N : List Vals), t = i ∧ i ≤ ms.length ∧ N = stepM fs (ms.take i) a ∧ N.length ≤ 20000 ∧ OwnW w' w43.heap.size next N ∧ Fr (fun b => w43.heap.size ≤ b) w43 w', fun _ t _ => ms.length - t.toNat,
      ⟨0, [], rfl, by omega, by simp [stepM], by simp, Own.nil _ _ _ _, Fr.refl _ _⟩, ?_⟩
    rintro - next t w53 ⟨i, N, rfl, hi, hN, hN2, hown, hfr⟩
    have gF : ∀ {w'}, Fr (fun b => w43.heap.size ≤ b) w43 w' → Grow w43 w' := fun hf => (Grow.refl _).fr hf fun i hi e => by omega
    have g53 := gF hfr
    refine condD (fun hlt2 => ?_) (fun hge2 => ?_)
    · have hil : i < ms.length := by omega
      have h8i := h8 _ (List.getElem_mem hil)
      refine SlV.loc (SlR.grow hnow (g43.trans g53)) rfl hil rfl fun w59 g59 s59 hC => ?_
      have hfr59 := hfr.trans (Fr.of_grow g59)
      have gk : ∀ {w'}, Fr (fun b => w43.heap.size ≤ b) w43 w' → Grow w13 w' := fun hf => (g37.trans g43).trans (gF hf)
      refine SlX.ln (hkeys.gr (gk hfr59)) ⟨fun next t w' => ∃ (j : Nat) (N : List Vals), t = j ∧ j ≤ fs.length ∧ InK w43 w53.heap.size fs ms a i j hil next w' N, fun _ t _ => fs.length - t.toNat,
        ⟨0, N, rfl, by omega, ⟨by simpa using hN, by omega, Own.grow hown g59, fun b hb e => by have := (Own.lt hown hb).2; omega, hC, hfr59⟩⟩, ?_⟩
      rintro - next t w69 ⟨j, N, rfl, hj, hI⟩
      refine condD (fun hlt3 => ?_) (fun hge3 => ?_)
      · have hjl : j < fs.length := by
          rw [List.length_map] at hlt3
          omega
        refine SlL.rd1 (hkeys.gr (gk hI.fr)) rfl (by rw [List.length_map]; exact hjl) fun ku hku m => ?_
        rw [List.getElem_map] at hku
        have gm : Grow w69 (dr w69 m) := (Grow.refl w69).dr m
        obtain ⟨E0, hE0⟩ : ∃ E0, E0 = dr w69 m := ⟨_, rfl⟩
        rw [← hE0] at gm
        rw [← hE0]
        have hcs : w43.heap.size ≤ w53.heap.size := hfr.size
        have hs69 := hI.rc.lt
        have hq : SlI w69 ku (fs[j].1 :: fs[j].2) := hku
        obtain ⟨ka, kn, kc, ek, hb0, tk, htk, htk2⟩ := hq.rd (i := 0) (j := 0) rfl (by simp) (K := fun t => t = fs[j].1) rfl
        subst htk2
        obtain ⟨a1, n1, c1', e1, l1, h1, m1, b1, hsv⟩ := SlI.from_ (ik := .i64) (z := 1) (i := 1) (K := fun x => SlI w69 x fs[j].2) hq rfl (by simp) fun _ h => by simpa using h
        refine ⟨ka, kn, kc, ek, hb0, a1, n1, c1', e1, l1, h1, m1, b1, ?_⟩
        obtain ⟨sv, esv⟩ : ∃ sv, sv = (Value.slice (if m1 = l1 then a1 else a1.map (·.add (l1 * 1))) (h1 - l1) (m1 - l1)) := ⟨_, rfl⟩
        rw [← esv] at hsv
        rw [← esv]
        have fE : ∀ {w'}, Grow E0 w' → Fr (fun b => w43.heap.size ≤ b) w43 w' := fun g => hI.fr.trans (Fr.of_grow (gm.trans g))
        -- behind the call: the result lies in block blk
        have tail : ∀ {w' : World} {blk : Nat} {m' : Vals} {ok : Bool}, Grow E0 w' → E0.heap.size ≤ blk → RecV w' blk (encV m') → m'.length = 8 → fitA ms[i] a fs[j] = (if ok then some m' else none) →
            condP ok (∃ cs : List Value, cs.length = 8 ∧ (∀ (j : Nat) (v : Value), cs[j]? = some v → w'.cell? (Addr.add ⟨blk, 0, none⟩ j) = some v) ∧ ∃ t : Value, ∃ w2 : World, (Instr.buildSlice 75 1 #[(0, (Value.agg cs.toArray))]).run Tryz.prog w' = .ok t w2 ∧ PApp Tryz.prog 75 75 next t w2 fun v2 w3 => inR ((j : Int) + 1) ∧ ((∃ (j' : Nat) (N : List Vals), (j : Int) + 1 = j' ∧ j' ≤ fs.length ∧ InK w43 w53.heap.size fs ms a i j' hil v2 w3 N) ∧ fs.length - Int.toNat ((j : Int) + 1) < fs.length - Int.toNat (j : Int)))
              (inR ((j : Int) + 1) ∧ ((∃ (j' : Nat) (N : List Vals), (j : Int) + 1 = j' ∧ j' ≤ fs.length ∧ InK w43 w53.heap.size fs ms a i j' hil next w' N) ∧ fs.length - Int.toNat ((j : Int) + 1) < fs.length - Int.toNat (j : Int))) := fun {w' blk m' ok} g hblk hW h8' hfit => by
          have g69 := gm.trans g
          cases ok with
          | false =>
            refine cF rfl ⟨by unfold inR; omega, ⟨j + 1, N, by omega, by omega, ⟨?_, by have := hI.few; omega, Own.grow hI.own g69, hI.off, hI.rc.grow g69, fE g⟩⟩, by omega⟩
            rw [fm_take hjl, show fitA ms[i] a fs[j] = none from hfit]
            simpa using hI.eq
          | true =>
            have hfit : fitA ms[i] a fs[j] = some m' := hfit
            refine cT rfl ⟨_, encV_len m', hW.all, bs1 el_arr (by omega) (by omega) (cs := (encV m').toArray) (by simp [encV_len]) w' fun w78 hw78 => ?_⟩
            have g78 := alloc_grow hw78
            have hNf := hI.few
            refine pappRk el_arr (by omega) encV_len encV_one hw78 (Own.grow hI.own g69) (by have := (fE g).size; omega) (by omega) (by omega) ?_
            intro v2 w81 ho2 hf2 hbl
            refine ⟨by unfold inR; omega, ⟨j + 1, N ++ [m'], by omega, by omega, ⟨?_, by simp; omega, ho2, fun b hb e => ?_, ?_, ?_⟩⟩, by omega⟩
            · rw [fm_take hjl, hfit, ← List.append_assoc, ← hI.eq]
            · rcases hbl b hb with h | h
              · exact hI.off b h.symm e
              · have := g69.size
                omega
            · exact ((hI.rc.grow g69).grow g78).fr hf2 fun e => hI.off _ e.symm rfl
            · refine (fE g).trans ((Fr.of_grow g78).trans (hf2.mono fun b _ e => ?_))
              exact (Own.lt hI.own e.symm).1
        have call : ∀ {w' : World} {Q : Ending → World → Prop}, Grow E0 w' → (∀ e w2, FitR w' (fitA ms[i] a fs[j]) e w2 → Q e w2) → Calls Tryz.prog 62 #[.agg (encV ms[i]).toArray, .agg #[.int .i64 a.1, u], .agg #[.int .i64 fs[j].1, sv]] w' Q := fun {w' Q} g h =>
          (refFit_c (m := ms[i]) h8i (hu.grow (gF (fE g))) (hsv.grow (gm.trans g)) hTa).mono h
        have mm : ∀ {w'}, Grow E0 w' → ∀ (t : Nat) (v : Value), (encV ms[i])[t]? = some v → w'.cell? (Addr.add ⟨w53.heap.size, 0, none⟩ t) = some v := fun g => (hI.rc.grow (gm.trans g)).all
        have aa : ∀ {w'}, Grow E0 w' → ∀ (t : Nat) (v : Value), [Value.int .i64 a.1, u][t]? = some v → w'.cell? (Addr.add ⟨w37.heap.size, 0, none⟩ t) = some v := fun g => two ((gF (fE g)).cell c0) ((gF (fE g)).cell c1)
        have kk : ∀ {w'}, Grow E0 w' → w'.cell? (ka.add (Int.toNat 0 * 1)) = some (Value.int .i64 fs[j].1) := fun g => (gm.trans g).cell htk
        have ov : oneV sv := hsv.one
        have gA : ∀ {o : Obj}, Grow E0 (E0.alloc o) := (Grow.refl _).alloc _
        have r0 : Grow E0 E0 := Grow.refl _
        repeat' first
          | exact ov
          | refine ⟨_, encV_len ms[i], mm r0, ?_⟩
          | refine ⟨_, encV_len ms[i], mm gA, ?_⟩
          | refine ⟨[_, _], rfl, aa r0, ?_⟩
          | refine ⟨[_, _], rfl, aa gA, ?_⟩
          | refine ⟨_, kk r0, ?_⟩
          | refine ⟨_, kk gA, ?_⟩
          | (refine call r0 ?_
             rintro e w87 ⟨m', ok, rfl, g87, h8', hfit⟩
             refine ⟨_, _, rfl, fun w91 hw91 => RecV.init (cs := encV m') hw91 (by rw [encV_len]; rfl) (encV_one _) fun w92 g92 _ hW => ?_⟩
             exact tail (g87.trans g92) g87.size hW h8' hfit)
          | (refine call gA ?_
             rintro e w87 ⟨m', ok, rfl, g87, h8', hfit⟩
             refine ⟨_, _, rfl, RecV.store (cs := encV m') ((RecV.new rfl).grow g87) (by rw [encV_len]; rfl) (encV_one _) fun w92 hf92 hW => ?_⟩
             exact tail ((gA.trans g87).fr hf92 fun b hb e => by omega) (Nat.le_refl _) hW h8' hfit)
          | (rintro w91 rfl)
          | refine And.intro ?_ ?_
      · have hjl : j = fs.length := by
          rw [List.length_map] at hge3
          omega
        subst hjl
        have hN2 : N = stepM fs (ms.take (i + 1)) a := by rw [hI.eq, List.take_length, step_take hil]
        refine SlR.ln (OwnW.slV hI.own) (condD (fun hbig => ?_) fun hsmall => ?_)
        · refine ⟨g037.trans (g43.trans (gF hI.fr)), .inr ⟨rfl, ?_⟩⟩
          unfold runF
          rw [← hfs, hrun, if_neg]
          have e3 : stepM fs (ms.take (i + 1) ++ ms.drop (i + 1)) a = stepM fs (ms.take (i + 1)) a ++ stepM fs (ms.drop (i + 1)) a := by
            unfold stepM
            rw [List.flatMap_append]
          rw [List.take_append_drop] at e3
          rw [e3, ← hN2, List.length_append]
          omega
        · exact ⟨by unfold inR; omega, ⟨i + 1, N, by omega, by omega, hN2, by omega, hI.own, hI.fr⟩, by dsimp only; omega⟩
    · have hil : i = ms.length := by omega
      subst hil
      rw [List.take_length] at hN
      subst hN
      refine ⟨by unfold inR; omega, ⟨k + 1, _, by omega, by omega, OwnW.slV hown, h8s, ?_, hN2, (g37.trans g43).trans g53⟩, by dsimp only; omega⟩
      rw [hrun, if_pos hN2]
  · have hkl : k = b.length := by omega
    subst hkl
    rw [List.drop_length] at hrun
    refine ⟨g037, .inl ⟨now, ms, rfl, ?_, hnow⟩⟩
    unfold runF
    rw [← hfs, hrun, runM]
end Go.Proofs.YtjkphmbjdleppaaGreat
