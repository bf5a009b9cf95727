/- The calculus, fourth part: its soundness. No condition. -/
import Derived.Test.YtddpjdlhgggbkaaVe
namespace Go.Proofs.Ytddpjdlhgggbkaa.VC
open Go Go.RowKit
set_option linter.unusedSimpArgs false
set_option linter.unusedVariables false
variable {C : Nat → Bool} {P : Program}

theorem hρ (a : Act) : ∀ f, a.eval (.func f) = .func (.func f) #[] #[] := fun _ => rfl
theorem agree_put {W : List Nat} {a : Act} {o : Oper} (hd : ∀ t, o.dst = some t → t ∈ W) (v : Value) : Agree W a (a.put o.dst v) := Agree.put a hd v

theorem vOps_wp (hC : ∀ f, C f = true → Callable P f) {ops : Array Oper} {sp : List Nat} {K : Act → World → Prop} {Q : Exit → Act → World → Prop} {W : List Nat} {a0 : Act}
    (hK : ∀ a w, Agree W a0 a → K a w → Q .normal a w) : ∀ (l : List Oper) (i : Nat) (a : Act) (w : World), (∀ o ∈ l, ∀ t, o.dst = some t → t ∈ W) → Agree W a0 a →
      vOps C P ops sp K i l a w → wpList P ops Q l a w
  | [], _, a, w, _, ha, h => hK a w ha h
  | o :: l, i, a, w, hd, ha, h => by
    have hd' : ∀ p ∈ l, ∀ t, p.dst = some t → t ∈ W := fun p hp => hd p (List.mem_cons_of_mem _ hp)
    have ho : ∀ v, Agree W a0 (a.put o.dst v) := fun v => ha.trans (agree_put (hd o (List.mem_cons_self ..)) v)
    unfold vOps at h
    unfold wpList
    split at h
    · rename_i hw
      rw [if_pos hw]
      refine .inl (OpOk.wp ?_)
      refine (opV_ok hC (hρ a) h).mono ?_
      intro v w' hk
      exact vOps_wp hC hK l _ _ _ hd' (ho v) (spl_out hk)
    · rename_i hw
      rw [if_neg (by rw [hw]; decide)]
      exact vOps_wp hC hK l _ _ _ hd' (ho undef) h

def cls (G : Bool) (w w' : World) : Prop := match G with | true => Grow w w' | false => ∃ m : DM w, w' = dr w m.1
theorem cls_true : cls true = Grow := rfl
theorem cls_cell {G : Bool} {w w' : World} (h : cls G w w') : ∀ a u, w.cell? a = some u → w'.cell? a = some u := by
  cases G with
  | true => exact fun a u hc => Grow.cell h hc
  | false => obtain ⟨m, rfl⟩ := h; exact fun a u hc => hc
theorem qV_ok (hC : ∀ f, C f = true → Callable P f) {G : Bool} {o : Oper} {a : Act} {w : World} {K : Value → Prop} (h : qV C P G o a.eval w K) :
    ∃ v, (∀ w', cls G w w' → o.quietAt P a (cls G w) w' v) ∧ K v := by
  unfold qV at h
  split at h
  · obtain ⟨v, hr, hk⟩ := pureV_runs h
    exact ⟨v, fun w' _ => by unfold Oper.quietAt; rw [hr]; exact ⟨rfl, rfl⟩, hk⟩
  · have call : ∀ {k : RK} {f : FuncId} {args : Array Value}, C f = true → QCall P k f args w K → ∃ v, (∀ w', Grow w w' → (Oper.quietUpon P (Grow w) w' v) ((callFunc f args).run P w')) ∧ K v := by
      intro k f args hf hq
      obtain ⟨v, hc, hk⟩ := RK.ex_elim hq
      refine ⟨v, fun w' hw => ?_, hk⟩
      rw [hC f hf]
      exact ⟨rfl, (hc w' hw).mono fun e w'' ⟨he, hg⟩ => ⟨he, hw.trans hg⟩⟩
    split at h
    · rename_i hop
      obtain ⟨v, hr, hk⟩ := loadV_ok h
      refine ⟨v, fun w' hw => ?_, hk⟩
      unfold Oper.quietAt
      simp only [execOp, hop]
      have := hr w' (cls_cell hw)
      simp [this, Oper.quietUpon]
    · rename_i hop
      split at h
      · rename_i hb
        simp only [Bool.and_eq_true] at hb
        obtain ⟨rfl, hf⟩ := hb
        obtain ⟨v, hr, hk⟩ := call hf h
        refine ⟨v, fun w' hw => ?_, hk⟩
        have := hr w' hw
        unfold Oper.quietAt
        simp only [execOp, hop]
        simpa [resolve, hρ, Deferred.ofValue, invoke, cls_true] using this
      · exact h.elim
    · rename_i hop
      split at h
      · obtain ⟨g, fst, cap, hf, hcg, hq⟩ := h
        obtain ⟨v, hr, hk⟩ := call hcg hq
        refine ⟨v, fun w' hw => ?_, hk⟩
        have := hr w' hw
        unfold Oper.quietAt
        simp only [execOp, hop]
        simpa [resolve, hf, Deferred.ofValue, invoke, cls_true] using this
      · exact h.elim
    · exact h.elim
theorem vQ_wp (hC : ∀ f, C f = true → Callable P f) {G : Bool} {ops : Array Oper} {sp : List Nat} {w : World} {K : Act → Prop} {K' : Act → Prop} {W : List Nat} {a0 : Act}
    (hK : ∀ a, Agree W a0 a → K a → K' a) : ∀ (l : List Oper) (i : Nat) (a : Act), (∀ o ∈ l, ∀ t, o.dst = some t → t ∈ W) → Agree W a0 a →
      vQ C P G ops sp w K i l a → wpQuiet P ops (cls G w) K' l a
  | [], _, a, _, ha, h => hK a ha h
  | o :: l, i, a, hd, ha, h => by
    have hd' : ∀ p ∈ l, ∀ t, p.dst = some t → t ∈ W := fun p hp => hd p (List.mem_cons_of_mem _ hp)
    have ho : ∀ v, Agree W a0 (a.put o.dst v) := fun v => ha.trans (agree_put (hd o (List.mem_cons_self ..)) v)
    unfold vQ at h
    unfold wpQuiet
    split at h
    · rename_i hw
      rw [if_pos hw]
      obtain ⟨v, hr, hk⟩ := qV_ok hC h
      exact ⟨v, hr, vQ_wp hC hK l _ _ hd' (ho v) (spl_out hk)⟩
    · rename_i hw
      rw [if_neg (by rw [hw]; decide)]
      exact vQ_wp hC hK l _ _ hd' (ho undef) h

/-! ### Any order -/
def okOp (P : Program) (ops : Array Oper) (i : Nat) (K : Act → World → Prop) (a : Act) (w : World) : Prop :=
  match ops[i]? with
  | none => K a w
  | some o => if Region.wanted o (yielded ops a.tmps) then OpOk P (fun v w' => K (a.put o.dst v) w') ((execOp a.eval o).run P w) else K (a.put o.dst undef) w
def okAny (P : Program) (ops : Array Oper) (K : Act → World → Prop) : Nat → Array Bool → Act → World → Prop
  | 0, listed, a, w => Region.ready .any ops listed = [] ∧ K a w
  | f + 1, listed, a, w => (Region.ready .any ops listed = [] → K a w) ∧ ∀ i ∈ Region.ready .any ops listed, okOp P ops i (okAny P ops K f (listed.setIfInBounds i true)) a w
theorem okOp_mono {ops : Array Oper} {i : Nat} {K K' : Act → World → Prop} {a : Act} {w : World} (hk : ∀ a w, K a w → K' a w) (h : okOp P ops i K a w) : okOp P ops i K' a w := by
  unfold okOp at *
  split
  · exact hk _ _ (by simpa [*] using h)
  · rename_i o ho
    simp only [ho] at h
    split
    · rename_i hw; rw [if_pos hw] at h; exact h.mono fun v w' => hk _ _
    · rename_i hw; rw [if_neg hw] at h; exact hk _ _ h
theorem okOp_wp {ops : Array Oper} {i : Nat} {K : Act → World → Prop} {Q : Exit → Act → World → Prop} {a : Act} {w : World} (h : okOp P ops i K a w) : wpOp P ops Q i K a w := by
  unfold okOp at h
  unfold wpOp
  split
  · simpa [*] using h
  · rename_i o ho
    simp only [ho] at h
    split
    · rename_i hw; rw [if_pos hw] at h; exact .inl (OpOk.wp h)
    · rename_i hw; rw [if_neg hw] at h; exact h
theorem wpOp_mono' {ops : Array Oper} {i : Nat} {K K' : Act → World → Prop} {Q : Exit → Act → World → Prop} {a : Act} {w : World} (hk : ∀ a w, K a w → K' a w) (h : okOp P ops i K a w) : wpOp P ops Q i K' a w :=
  okOp_wp (okOp_mono hk h)
theorem okAny_wp {ops : Array Oper} {K : Act → World → Prop} {Q : Exit → Act → World → Prop} (hK : ∀ a w, K a w → Q .normal a w) : ∀ (f : Nat) (listed : Array Bool) (a : Act) (w : World),
    okAny P ops K f listed a w → wpAny P .any ops Q f listed a w
  | 0, _, a, w, h => ⟨h.1, hK a w h.2⟩
  | f + 1, _, a, w, h => ⟨fun h0 => hK a w (h.1 h0), fun i hi => wpOp_mono' (fun a w h => okAny_wp hK f _ a w h) (h.2 i hi)⟩
/-- In this frame the operation leaves v in its slot, in whatever world. -/
def YieldsP (P : Program) (ops : Array Oper) (o : Oper) (v : Value) (a : Act) : Prop :=
  (Region.wanted o (yielded ops a.tmps) = true ∧ ∀ w, (execOp a.eval o).run P w = .ok (.value v) w) ∨ (Region.wanted o (yielded ops a.tmps) = false ∧ v = undef)
theorem YieldsP.ok {ops : Array Oper} {i : Nat} {o : Oper} {v : Value} {a : Act} {w : World} (hi : ops[i]? = some o) (hy : YieldsP P ops o v a) {K : Act → World → Prop} (h : K (a.put o.dst v) w) : okOp P ops i K a w := by
  unfold okOp
  simp only [hi]
  rcases hy with ⟨hw, hv⟩ | ⟨hw, rfl⟩
  · rw [if_pos hw, hv]; exact h
  · rw [if_neg (by rw [hw]; decide)]; exact h
theorem okOp_put {ops : Array Oper} {j : Nat} {oi oj : Oper} {v : Value} (hj : ops[j]? = some oj) (hap : oi.apart ops oj = true)
    (hsi : ∀ cs b, oi.op ≠ .select cs b) (hsj : ∀ cs b, oj.op ≠ .select cs b) {K : Act → World → Prop} {a : Act} {w : World}
    (hy : YieldsP P ops oi v a) (h : okOp P ops j K (a.put oi.dst v) w) : okOp P ops j (fun a' w' => YieldsP P ops oi v a' ∧ K (a'.put oi.dst v) w') a w := by
  obtain ⟨h1, h2, h3⟩ := Oper.apart_spec hap
  have keep : ∀ u, YieldsP P ops oi v (a.put oj.dst u) := fun u => by
    unfold YieldsP at *
    rw [execOp_put oi hsi a oj.dst u h3, wanted_put oi a oj.dst u h3]
    exact hy
  unfold okOp at *
  simp only [hj] at *
  rw [wanted_put oj a oi.dst v h1] at h
  split
  · rename_i hw
    rw [if_pos hw, execOp_put oj hsj a oi.dst v h1] at h
    exact h.mono fun u w' hk => ⟨keep u, by rw [← Act.put_comm a v u h2]; exact hk⟩
  · rename_i hw
    rw [if_neg hw] at h
    exact ⟨keep _, by rw [← Act.put_comm a v undef h2]; exact h⟩
theorem okAny_first {ops : Array Oper} {K : Act → World → Prop} {i : Nat} {oi : Oper} {v : Value} (hi : ops[i]? = some oi) (hsel : ∀ (j : Nat) (o : Oper) cs b, ops[j]? = some o → o.op ≠ .select cs b) :
    ∀ (fuel : Nat) (listed : Array Bool) (a : Act) (w : World),
      (∀ j oj, ops[j]? = some oj → j ≠ i → listed.getD j true = false → (∀ e ∈ oj.after, Region.binds .any e = true → e.on ≠ i) → oi.apart ops oj = true) →
      i ∈ Region.ready .any ops listed → YieldsP P ops oi v a →
      okAny P ops K fuel (listed.setIfInBounds i true) (a.put oi.dst v) w → okAny P ops K (fuel + 1) listed a w := by
  intro fuel
  induction fuel with
  | zero =>
    intro listed a w _ hr hy H
    refine ⟨fun h => (by rw [h] at hr; cases hr), fun j hj => ?_⟩
    by_cases hji : j = i
    · subst hji; exact hy.ok hi H
    · have := ready_mono hj hji
      rw [H.1] at this
      cases this
  | succ fuel ih =>
    intro listed a w hfree hr hy H
    refine ⟨fun h => (by rw [h] at hr; cases hr), fun j hj => ?_⟩
    by_cases hji : j = i
    · subst hji; exact hy.ok hi H
    · have h1 := H.2 j (ready_mono hj hji)
      obtain ⟨hjun, oj, hoj, hall⟩ := mem_ready.1 hj
      have hnot : ∀ e ∈ oj.after, Region.binds .any e = true → e.on ≠ i := fun e he hb heq => by
        have h2 := hall e he hb
        have h0 := (mem_ready.1 hr).1
        rw [heq] at h2
        rcases Nat.lt_or_ge i listed.size with h' | h'
        · simp [h'] at h0 h2; rw [h0] at h2; cases h2
        · simp [Array.getElem?_eq_none h'] at h2
      have h2 := okOp_put hoj (hfree j oj hoj hji hjun hnot) (fun cs b => hsel i oi cs b hi) (fun cs b => hsel j oj cs b hoj) hy h1
      have hfree' : ∀ k ok, ops[k]? = some ok → k ≠ i → (listed.setIfInBounds j true).getD k true = false →
          (∀ e ∈ ok.after, Region.binds .any e = true → e.on ≠ i) → oi.apart ops ok = true := fun k ok hk hki hun hno => by
        refine hfree k ok hk hki ?_ hno
        by_cases hjk : j = k
        · subst hjk; exact hjun
        · rw [getD_set_ne true hjk] at hun; exact hun
      refine okOp_mono (fun a' w' h3 => ih (listed.setIfInBounds j true) a' w' hfree' (ready_mono hr (Ne.symm hji)) h3.1 ?_) h2
      rw [Array.setIfInBounds_comm _ _ hji]
      exact h3.2
theorem vAny_ok (hC : ∀ f, C f = true → Callable P f) {ops : Array Oper} {sp : List Nat} {K K' : Act → World → Prop} {W : List Nat} {a0 : Act}
    (hns : Region.noSelect ops = true) (hd : ∀ o ∈ ops.toList, ∀ t, o.dst = some t → t ∈ W) (hK : ∀ a w, Agree W a0 a → K a w → K' a w) :
    ∀ (f : Nat) (listed : Array Bool) (a : Act) (w : World), Agree W a0 a → vAny C P ops sp K f listed a w → okAny P ops K' f listed a w := by
  have hmem : ∀ {i : Nat} {o : Oper}, ops[i]? = some o → o ∈ ops.toList := fun {i o} h => by
    rw [← Array.getElem?_toList] at h
    exact List.mem_of_getElem? h
  intro f
  induction f with
  | zero =>
    intro listed a w ha h
    unfold vAny at h
    split at h
    · rename_i hr; exact ⟨hr, hK a w ha h⟩
    · exact h.elim
  | succ f ih =>
    intro listed a w ha h
    unfold vAny at h
    split at h
    · rename_i hr
      exact ⟨fun _ => hK a w ha h, fun i hi => by rw [hr] at hi; cases hi⟩
    · rename_i hne
      split at h
      · rename_i i hfind
        have hir : i ∈ Region.ready .any ops listed := List.mem_of_find?_eq_some hfind
        split at h
        · rename_i o ho hfree
          have hy : ∀ {v}, YieldsP P ops o v a → okAny P ops K' f (listed.setIfInBounds i true) (a.put o.dst v) w → okAny P ops K' (f + 1) listed a w := fun hy h' =>
            okAny_first ho (Region.noSelect_spec hns) f listed a w (Region.free_spec ho hfree) hir hy h'
          have hag : ∀ v, Agree W a0 (a.put o.dst v) := fun v => ha.trans (agree_put (hd o (hmem ho)) v)
          split at h
          · rename_i hw
            obtain ⟨v, hr, hk⟩ := pureV_runs h
            exact hy (.inl ⟨hw, hr⟩) (ih _ _ _ (hag v) (spl_out hk))
          · rename_i hw
            exact hy (.inr ⟨hw, rfl⟩) (ih _ _ _ (hag undef) h)
        · exact h.elim
      · refine ⟨fun h0 => absurd h0 hne, fun i hi => ?_⟩
        have hi' := allN_mem h i hi
        unfold okOp
        split at hi'
        · rename_i o ho
          have hag : ∀ v, Agree W a0 (a.put o.dst v) := fun v => ha.trans (agree_put (hd o (hmem ho)) v)
          simp only [ho]
          split at hi'
          · rename_i hw
            rw [if_pos hw]
            exact (opV_ok hC (hρ a) hi').mono fun v w' hk => ih _ _ _ (hag v) (spl_out hk)
          · rename_i hw
            rw [if_neg (by rw [hw]; decide)]
            exact ih _ _ _ (hag undef) hi'
        · exact hi'.elim
theorem vRegion_wp (hC : ∀ f, C f = true → Callable P f) (hm : P.follows .mixedOrders = true) {r : RH} {id : Nat} {ops : Array Oper} {draw : Bool} {K : Act → World → Prop} {Q : Exit → Act → World → Prop} {a : Act} {w : World}
    (hok : rOk r ops draw = true) (hK : ∀ a' w', Agree (dsts ops.toList) a a' → K a' w' → Q .normal a' w') (h : vRegion C P r ops draw K a w) : (Code.region id ops draw).wp P Q a w := by
  have hd : ∀ o ∈ ops.toList, ∀ t, o.dst = some t → t ∈ dsts ops.toList := fun o ho t ht => mem_dsts ho ht
  unfold vRegion at h
  split at h
  · exact wp_region_list (vOps_wp hC hK _ _ _ _ hd (Agree.refl _ _) h)
  · refine wp_region_quiet (C := cls false w) hm hok ⟨⟨_, Nat.le_succ _⟩, rfl⟩ ?_
    refine vQ_wp hC (fun a' ha' hk => ?_) _ _ _ hd (Agree.refl _ _) h
    rintro w' ⟨m, rfl⟩
    exact hK _ _ ha' (hk m)
  · refine wp_region_quiet (C := cls true w) hm hok ((Grow.refl w).dr _) ?_
    refine vQ_wp hC (fun a' ha' hk => ?_) _ _ _ hd (Agree.refl _ _) h
    exact fun w' hw' => hK _ _ ha' (hk w' hw')
  · refine wp_region_any hm (okAny_wp (K := fun a' w' => Q .normal a' w') (fun _ _ h => h) _ _ _ _ ?_)
    exact vAny_ok hC hok hd hK _ _ _ _ (Agree.refl _ _) (h ⟨_, Nat.le_succ _⟩)
  · exact h.elim

/-! ### Code -/
theorem junkA_size (j : Nat → Value) : ∀ (W : List Nat) (t : Array Value), (junkA j W t).size = t.size
  | [], _ => rfl
  | i :: r, t => by simp [junkA, junkA_size j r]
theorem junkA_get (j : Nat → Value) : ∀ (W : List Nat) (t t' : Array Value), t'.size = t.size → (∀ i, i ∉ W → t'[i]? = t[i]?) → (∀ i, i ∈ W → j i = t'.getD i undef) → junkA j W t = t'
  | [], t, t', hs, h, _ => by
    apply Array.ext_getElem?
    intro i
    exact (h i (by simp)).symm
  | i :: r, t, t', hs, h, hj => by
    unfold junkA
    refine junkA_get j r _ t' (by simp [hs]) (fun k hk => ?_) (fun k hk => hj k (List.mem_cons_of_mem _ hk))
    by_cases e : i = k
    · subst e
      have := hj i (List.mem_cons_self ..)
      rw [Array.getElem?_setIfInBounds_self]
      by_cases hlt : i < t.size
      · rw [if_pos hlt, this]
        have : i < t'.size := by omega
        simp [this]
      · rw [if_neg hlt]
        simp; omega
    · rw [Array.getElem?_setIfInBounds_ne e]
      exact h k (by simp [hk]; exact fun h => e h.symm)
theorem junk_of_agree {W : List Nat} {a a' : Act} (h : Agree W a a') : ({ a with tmps := junkA (fun i => a'.tmps.getD i undef) W a.tmps } : Act) = a' := by
  have := junkA_get (fun i => a'.tmps.getD i undef) W a.tmps a'.tmps h.size h.same (fun _ _ => rfl)
  rw [this, ← h.defers]
theorem set_same {t : Array Value} {i : Nat} {v : Value} (h : t.getD i undef = v) : t.setIfInBounds i v = t := by
  apply Array.ext_getElem?
  intro k
  by_cases e : i = k
  · subst e
    rw [Array.getElem?_setIfInBounds_self]
    by_cases hlt : i < t.size
    · simp [hlt] at h ⊢; exact h.symm
    · simp [hlt]
  · rw [Array.getElem?_setIfInBounds_ne e]
/-- Where the slots read as the predicate asks, the frame is one of those that the round is proved of. -/
theorem allC_out : ∀ {L : List (Nat × VK)} {I : KPred L} {a : Act} {f : Act → (World → Prop) → Prop} {w : World}, allC L I a f → readS L I a w → ∃ I1 : World → Prop, f a I1 ∧ I1 w
  | [], I, a, f, w, h, hr => ⟨I, h, hr⟩
  | (i, k) :: r, I, a, f, w, h, hr => by
    obtain ⟨x, hx, hr'⟩ := VK.get_out hr
    have := h x
    rw [set_same hx] at this
    exact allC_out this hr'
def VK.un : (k : VK) → Value → k.T
  | .int _, .int _ n => n
  | .int _, _ => (0 : Int)
  | .bool, .bool b => b
  | .bool, _ => false
  | .raw, v => v
  | .ptr, .pointer (some a) => a
  | .ptr, _ => (⟨0, 0, none⟩ : Addr)
theorem VK.un_val (k : VK) (x : k.T) : k.un (k.val x) = x := by cases k <;> rfl
def measS : (L : List (Nat × VK)) → KMeas L → Act → World → Nat
  | [], μ, _ => asN μ
  | (i, k) :: r, μ, a => measS r (μ (k.un (a.tmps.getD i undef))) a
theorem allS_out : ∀ {L : List (Nat × VK)} {I : KPred L} {μ : KMeas L} {a : Act} {f : Act → (World → Prop) → (World → Nat) → Prop} {w : World}, allS L I μ a f → readS L I a w →
    ∃ I1 : World → Prop, f a I1 (measS L μ a) ∧ I1 w
  | [], I, μ, a, f, w, h, hr => ⟨I, h, hr⟩
  | (i, k) :: r, I, μ, a, f, w, h, hr => by
    obtain ⟨x, hx, hr'⟩ := VK.get_out hr
    have h1 := h x
    rw [set_same hx] at h1
    unfold measS
    rw [hx, VK.un_val]
    exact allS_out h1 hr'
theorem readM_out : ∀ {L : List (Nat × VK)} {I : KPred L} {μ : KMeas L} {a : Act} {m : Nat} {w : World}, readM L I μ a m w → readS L I a w ∧ measS L μ a w < m
  | [], _, _, _, _, _, h => h
  | (i, k) :: r, I, μ, a, m, w, h => by
    obtain ⟨x, hx, h'⟩ := VK.get_out h
    obtain ⟨h1, h2⟩ := readM_out h'
    unfold readS measS
    rw [hx, VK.un_val]
    exact ⟨VK.get_in h1, h2⟩
theorem vc_wp (hC : ∀ f, C f = true → Callable P f) (hm : P.follows .mixedOrders = true) : ∀ (h : HT) (c : Code) (Q : Exit → Act → World → Prop) (a : Act) (w : World), vcOk P h c = true → vc C P h c Q a w →
    c.wp P (fun e a' w' => Q e a' w' ∧ Agree (written c) a a') a w := by
  intro h c
  induction c generalizing h with
  | skip => intro Q a w _ hv; exact wp_skip ⟨by cases h <;> exact hv, Agree.refl _ _⟩
  | exit id => intro Q a w _ hv; exact wp_exit ⟨by cases h <;> exact hv, Agree.refl _ _⟩
  | ret => intro Q a w _ hv; exact wp_ret ⟨by cases h <;> exact hv, Agree.refl _ _⟩
  | region id ops draw =>
    intro Q a w hok hv
    cases h
    case region r => exact vRegion_wp hC hm hok (fun a' w' ha hq => ⟨hq, ha⟩) hv
    all_goals exact (show False from hv).elim
  | seq x y ihx ihy =>
    intro Q a w hok hv
    cases h
    case seq cut h1 h2 =>
      simp only [vcOk, Bool.and_eq_true] at hok
      have mx : ∀ i, i ∈ written x → i ∈ written (Code.seq x y) := fun i hi => List.mem_append_left _ hi
      have my : ∀ i, i ∈ written y → i ∈ written (Code.seq x y) := fun i hi => List.mem_append_right _ hi
      cases cut with
      | none =>
        refine wp_seq (wp_mono (ihx h1 _ a w hok.1 hv) ?_)
        rintro e a' w' ⟨hq, ha⟩
        cases e
        case normal =>
          refine wp_mono (ihy h2 _ a' w' hok.2 hq) ?_
          rintro e a2 w2 ⟨hq2, ha2⟩
          exact ⟨hq2, (ha.mono mx).trans (ha2.mono my)⟩
        all_goals exact ⟨hq, ha.mono mx⟩
      | some L =>
        obtain ⟨J, hx, hy⟩ := hv
        refine wp_seq (wp_mono (ihx h1 _ a w hok.1 hx) ?_)
        rintro e a' w' ⟨hq, ha⟩
        cases e
        case normal =>
          have h3 := hy fun i => a'.tmps.getD i undef
          rw [junk_of_agree ha] at h3
          obtain ⟨J1, h4, h5⟩ := allC_out h3 hq
          refine wp_mono (ihy h2 _ a' w' hok.2 (h4 w' h5)) ?_
          rintro e a2 w2 ⟨hq2, ha2⟩
          exact ⟨hq2, (ha.mono mx).trans (ha2.mono my)⟩
        all_goals exact ⟨hq, ha.mono mx⟩
    all_goals exact (show False from hv).elim
  | cond cd x y ihx ihy =>
    intro Q a w hok hv
    cases h
    case cond h1 h2 =>
      simp only [vcOk, Bool.and_eq_true] at hok
      unfold vc at hv
      split at hv
      · rename_i b hb
        refine wp_cond hb ?_
        cases b
        · exact wp_mono (ihy h2 Q a w hok.2 hv) fun e a' w' ⟨hq, ha⟩ => ⟨hq, ha.mono fun i hi => List.mem_append_right _ hi⟩
        · exact wp_mono (ihx h1 Q a w hok.1 hv) fun e a' w' ⟨hq, ha⟩ => ⟨hq, ha.mono fun i hi => List.mem_append_left _ hi⟩
      · exact hv.elim
    all_goals exact (show False from hv).elim
  | block id c ih =>
    intro Q a w hok hv
    cases h
    case block h =>
      refine wp_block (wp_mono (ih h _ a w hok hv) ?_)
      rintro e a' w' ⟨hq, ha⟩
      cases e
      case exit id' =>
        unfold Exit.inBlock at hq ⊢
        dsimp only at hq ⊢
        split <;> rename_i hid
        · rw [if_pos hid] at hq; exact ⟨hq, ha⟩
        · rw [if_neg hid] at hq; exact ⟨hq, ha⟩
      all_goals exact ⟨hq, ha⟩
    all_goals exact (show False from hv).elim
  | loop c ih =>
    intro Q a w hok hv
    cases h
    case loop L h =>
      obtain ⟨I, μ, h0, hr⟩ := hv
      refine wp_loop (fun a' w' => Agree (written c) a a' ∧ readS L I a' w') (fun a' w' => measS L μ a' w') ⟨Agree.refl _ _, h0⟩ ?_
      rintro a1 w1 ⟨ha, hi⟩
      have h1 := hr fun i => a1.tmps.getD i undef
      rw [junk_of_agree ha] at h1
      obtain ⟨I1, h2, h3⟩ := allS_out h1 hi
      refine wp_mono (ih h _ a1 w1 hok (h2 w1 h3)) ?_
      rintro e a2 w2 ⟨hq, ha2⟩
      cases e
      case normal =>
        obtain ⟨h4, h5⟩ := readM_out hq
        exact ⟨⟨ha.trans ha2, h4⟩, h5⟩
      all_goals exact ⟨hq, ha.trans ha2⟩
    all_goals exact (show False from hv).elim
  | rangeFunc f ps x y => intro Q a w _ hv; cases h <;> exact (show False from hv).elim
  | scope c => intro Q a w _ hv; cases h <;> exact (show False from hv).elim
  | label l => intro Q a w _ hv; cases h <;> exact (show False from hv).elim
  | goto l => intro Q a w _ hv; cases h <;> exact (show False from hv).elim
  | refuse s => intro Q a w _ hv; cases h <;> exact (show False from hv).elim

/-! ### Calls -/
def retV : List ResultVar → Act → Option (List Value)
  | [], _ => some []
  | .tmp t :: r, a => (retV r a).map fun vs => a.tmps.getD t undef :: vs
  | .cell .. :: _, _ => none
def retQ (P : Program) (rs : List ResultVar) (R : Ending → World → Prop) : Exit → Act → World → Prop
  | .ret, a, w | .normal, a, w => match rs with
    | [.tmp t] => R (.returned (a.tmps.getD t undef)) w
    | [.cell t ty] => loadV P ty (a.tmps.getD t undef) w fun v => R (.returned v) w
    | [.cell t ty, .tmp u] => loadV P ty (a.tmps.getD t undef) w fun v => R (.returned (.tuple #[v, a.tmps.getD u undef])) w
    | rs => match retV rs a with
      | some vs => R (.returned (.tuple vs.toArray)) w
      | none => False
  | _, _, _ => False
def frame0 (ntmps : Nat) (args : Array Value) : Act := { tmps := args ++ Array.replicate (ntmps - args.size) undef, defers := [] }
/-- The condition of a call. -/
def vcCalls (C : Nat → Bool) (P : Program) (fn : Func) (h : HT) (args : Array Value) (w : World) (R : Ending → World → Prop) : Prop :=
  match fn.body with
  | some c => vc C P h c (retQ P fn.results.toList R) (frame0 fn.ntmps args) w
  | none => False
def bodyOk (P : Program) (fn : Func) (h : HT) : Bool := match fn.body with | some c => vcOk P h c | none => false
def resF (t : Array Value) : ResultVar → Sem Value
  | .tmp i => pure (t.getD i undef)
  | .cell i ty => do loadVar ty (← asAddr (t.getD i undef))
theorem results_eq (fn : Func) (t : Array Value) : results fn t = (do let vs ← fn.results.mapM (resF t); pure (if h : vs.size = 1 then vs[0] else .tuple vs)) := by
  unfold results
  congr 1
theorem retV_run {a : Act} {w : World} : ∀ {rs : List ResultVar} {vs : List Value}, retV rs a = some vs → (rs.mapM (resF a.tmps)).run P w = .ok vs w
  | [], vs, h => by simp [retV] at h; subst h; simp
  | .tmp t :: r, vs, h => by
    simp only [retV, Option.map_eq_some_iff] at h
    obtain ⟨us, hu, rfl⟩ := h
    have := retV_run (w := w) hu
    simp only [List.mapM_cons, Sem.run_bind, resF, Sem.run_pure, Result.andThen_ok, this]
  | .cell .. :: _, vs, h => by simp [retV] at h
theorem results_of {fn : Func} {rs : List ResultVar} (hrs : fn.results.toList = rs) {t : Array Value} {w : World} {vs : List Value} (h : (rs.mapM (resF t)).run P w = .ok vs w) :
    (results fn t).run P w = .ok (if h : vs.toArray.size = 1 then vs.toArray[0] else .tuple vs.toArray) w := by
  have e : fn.results = rs.toArray := by apply Array.ext'; simpa using hrs
  rw [results_eq, e]
  simp only [Sem.run_bind, List.mapM_toArray, Sem.run_map, h, Result.andThen_ok, Sem.run_pure]
theorem retV_length {a : Act} : ∀ {rs : List ResultVar} {vs : List Value}, retV rs a = some vs → rs.length = vs.length
  | [], vs, h => by simp [retV] at h; subst h; rfl
  | .tmp t :: r, vs, h => by
    simp only [retV, Option.map_eq_some_iff] at h
    obtain ⟨us, hu, rfl⟩ := h
    simp [retV_length hu]
  | .cell .. :: _, vs, h => by simp [retV] at h
theorem cell_run {a : Act} {w : World} {t : Nat} {ty : TypeId} {v : Value} {rs : List ResultVar} {vs : List Value} (hl : (Instr.loadAt ty (a.tmps.getD t undef)).run P w = .ok v w) (hr : retV rs a = some vs) :
    ((.cell t ty :: rs).mapM (resF a.tmps)).run P w = .ok (v :: vs) w := by
  have h1 : (resF a.tmps (.cell t ty)).run P w = .ok v w := by
    show (do loadVar ty (← asAddr (a.tmps.getD t undef)) : Sem Value).run P w = _
    unfold Instr.loadAt at hl
    generalize a.tmps.getD t undef = x at *
    cases x <;> try (simp [Instr.sureAddr] at hl; done)
    rename_i o
    cases o
    · simp [Instr.sureAddr] at hl
    · simpa [Instr.sureAddr, asAddr] using hl
  simp only [List.mapM_cons, Sem.run_bind, h1, Result.andThen_ok, retV_run hr, Sem.run_pure]
theorem calls_of_vc (hC : ∀ f, C f = true → Callable P f) (hm : P.follows .mixedOrders = true) {f : FuncId} {fn : Func} (hf : P.funcs[f]? = some fn) {h : HT} (hok : bodyOk P fn h = true)
    {args : Array Value} {w : World} {R : Ending → World → Prop} (hv : vcCalls C P fn h args w R) : Calls P f args w R := by
  unfold vcCalls at hv
  unfold bodyOk at hok
  cases hb : fn.body with
  | none => rw [hb] at hv; exact hv.elim
  | some c =>
    rw [hb] at hv hok
    refine calls_of_wp hf hb (wp_mono (vc_wp hC hm h c _ _ _ hok hv) ?_)
    rintro e a w' ⟨hq, ha⟩
    have key : e = .ret ∨ e = .normal → retQ P fn.results.toList R .ret a w' → a.defers = [] ∧ ∃ v, (results fn a.tmps).run P w' = .ok v w' ∧ R (.returned v) w' := by
      intro _ hq
      refine ⟨ha.defers, ?_⟩
      unfold retQ at hq
      dsimp only at hq
      split at hq
      · rename_i t hrs
        exact ⟨_, results_of hrs (vs := [a.tmps.getD t undef]) (retV_run rfl), hq⟩
      · rename_i t ty hrs
        obtain ⟨v, hl, hk⟩ := loadV_ok hq
        have hl := hl w' fun _ _ h => h
        exact ⟨_, results_of hrs (vs := [v]) (cell_run hl rfl), hk⟩
      · rename_i t ty u hrs
        obtain ⟨v, hl, hk⟩ := loadV_ok hq
        have hl := hl w' fun _ _ h => h
        exact ⟨_, results_of hrs (vs := [v, a.tmps.getD u undef]) (cell_run hl rfl), hk⟩
      · split at hq
        · rename_i h1 _ _ vs hvs
          refine ⟨_, results_of rfl (retV_run hvs), ?_⟩
          have : vs.toArray.size ≠ 1 := by
            intro e
            have hl := retV_length hvs
            simp at e
            rw [e] at hl
            match hrs : fn.results.toList, hl with
            | [.tmp t], _ => exact ‹∀ (t : Tmp), fn.results.toList = [ResultVar.tmp t] → False› t hrs
            | [.cell t ty], _ => rw [hrs] at hvs; simp [retV] at hvs
          rw [dif_neg this]
          exact hq
        · exact hq.elim
    cases e
    case ret => exact key (.inl rfl) hq
    case normal => exact key (.inr rfl) hq
    all_goals exact (show False from hq).elim
theorem calls_of_eq (hC : ∀ f, C f = true → Callable P f) (hm : P.follows .mixedOrders = true) {f : FuncId} {fn : Func} (hf : P.funcs[f]? = some fn) {h : HT} (hok : bodyOk P fn h = true)
    {args : Array Value} {w : World} {R : Ending → World → Prop} {V : Prop} (he : vcCalls C P fn h args w R = V) (hv : V) : Calls P f args w R :=
  calls_of_vc hC hm hf hok (he ▸ hv)
end Go.Proofs.Ytddpjdlhgggbkaa.VC
