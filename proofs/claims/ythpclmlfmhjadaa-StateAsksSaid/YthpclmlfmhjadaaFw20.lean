/-
  Regions whose order is drawn: the steps, the rule.
-/
import Derived.Test.YthpclmlfmhjadaaFw19
set_option linter.unusedSectionVars false
set_option linter.unusedSimpArgs false
set_option linter.unusedVariables false
namespace Go.Abs
variable [Gl : Globals]
section
variable {P : Program} {hints : List String} {N k : Nat} {l : List AOper} {af an : List (List Nat)} {fl : Option Nat} {K : Env → AHeap → Prop} {e0 : Env} {ρ0 : Emb} {Pr : Nat → Prop} {h0 : Keep}
variable {S : Nat → Bool} {a : Act} {w : World} {X rest : List Nat} {vals : Nat → Value} {rs : Rs} {e : Env} {H : AHeap} {ρ : Emb} {hid : Hid}

theorem DInv.away (hst : Stat l af an fl) {i : Nat} {o : AOper} (ho : l[i]? = some o) (h : DInv P N k l an fl K e0 ρ0 Pr h0 S a w X rest vals rs e H ρ hid)
    (hS : S i = false) (hAX : ∀ x ∈ anOf an i, x ∈ X) {j b : Nat} {ob : Obj} (hh : hid = some (j, b, ob)) {oj : AOper} (hoj : l[j]? = some oj) :
    ∀ d, oj.dst = some d → d ∉ o.reads ∧ o.dst ≠ some d := by
  obtain ⟨_, hSj, hjX, _⟩ := h.hok.ok j b ob hh
  have hji : j ≠ i := fun he => by subst he; rw [hS] at hSj; cases hSj
  rcases hst.ord j i oj o hji hoj ho with h1 | h1 | ⟨h1, _⟩
  · exact absurd (hAX j h1) hjX
  · have := h.clo j hSj i h1; rw [hS] at this; cases this
  · exact h1

theorem DInv.view (hst : Stat l af an fl) {i : Nat} {o : AOper} (ho : l[i]? = some o) (h : DInv P N k l an fl K e0 ρ0 Pr h0 S a w X rest vals rs e H ρ hid)
    (hS : S i = false) (hAS : ∀ x ∈ anOf an i, S x = true) (hAX : ∀ x ∈ anOf an i, x ∈ X) {ej : Env} (hsame : ∀ t ∈ o.reads, look ej t = val l e0 vals (inn (anOf an i)) t) :
    ERel ρ (cut o.reads ej) a := by
  refine ⟨fun t v hv => ?_, h.defers⟩
  rw [look_cut] at hv
  split at hv
  · rename_i ht
    rw [hsame t ht, ← val_anc hst.ord h.clo ho hS hAS (fun hm => Nat.lt_irrefl _ (hst.lt i i hm)) ht] at hv
    exact h.act t v (fun j b ob oj hh hoj hd => (h.away hst ho hS hAX hh hoj t hd).1 ht) hv
  · cases hv

theorem add_clo {i : Nat} (hc : Closed an S) (hAS : ∀ x ∈ anOf an i, S x = true) : Closed an (add S i) := by
  intro j hj d hd
  simp only [add] at hj ⊢
  split
  · rfl
  · split at hj
    · rename_i hji; subst hji; exact hAS d hd
    · exact hc j hj d hd

theorem put_get {a : Act} {dst : Option Nat} {v' : Value} {t : Nat} (h : dst ≠ some t) : (a.put dst v').tmps[t]? = a.tmps[t]? := by
  cases dst with
  | none => rfl
  | some d =>
    have : d ≠ t := fun he => h (by rw [he])
    simp [Act.put, Array.getElem?_setIfInBounds_ne this]
theorem put_size {a : Act} {dst : Option Nat} {v' : Value} : (a.put dst v').tmps.size = a.tmps.size := by
  cases dst <;> simp [Act.put]
theorem put_defs {a : Act} {dst : Option Nat} {v' : Value} : (a.put dst v').defers = a.defers := by
  cases dst <;> rfl
theorem upd_self {vals : Nat → Value} {i : Nat} : upd vals i (vals i) = vals := by
  funext j; simp only [upd]; split
  · rename_i h; rw [h]
  · rfl

theorem DInv.actAdd (hst : Stat l af an fl) {i : Nat} {o : AOper} (ho : l[i]? = some o) (h : DInv P N k l an fl K e0 ρ0 Pr h0 S a w X rest vals rs e H ρ hid)
    (hS : S i = false) (hdN : ∀ d, o.dst = some d → d < N) {ρ' : Emb} (hle : ρ.le ρ') {v v' : Value} (hv : VRel ρ' v v') :
    ∀ t u, (∀ j b ob oj, hid = some (j, b, ob) → l[j]? = some oj → oj.dst ≠ some t) → val l e0 (upd vals i v) (add S i) t = some u → ∃ u', (a.put o.dst v').tmps[t]? = some u' ∧ VRel ρ' u u' := by
  intro t u ht hu
  rw [val_add hst.ord h.clo hst.lt ho hS] at hu
  split at hu
  · rename_i hd; cases hu
    have hlt := hdN t hd
    rw [hd]
    exact ⟨v', by simp [Act.put, h.size, hlt], hv⟩
  · rename_i hd
    obtain ⟨u', h1, h2⟩ := h.act t u ht hu
    exact ⟨u', by rw [put_get hd]; exact h1, h2.mono hle⟩

theorem DInv.hokAdd (hst : Stat l af an fl) {i : Nat} {o : AOper} (ho : l[i]? = some o) (h : DInv P N k l an fl K e0 ρ0 Pr h0 S a w X rest vals rs e H ρ hid)
    (hS : S i = false) (hAX : ∀ x ∈ anOf an i, x ∈ X) {X' : List Nat} (hX : ∀ x ∈ X', x ∈ X ∨ x = i) {ρ' : Emb} (hle : ρ.le ρ') (v' : Value) : HidOk l fl (add S i) X' ρ' Pr hid (a.put o.dst v') := by
  refine ⟨fun j b ob hh => ?_⟩
  obtain ⟨h1, h2, h3, h4, z, T, d, c', h5, h6, h7, h8⟩ := h.hok.ok j b ob hh
  have hji : j ≠ i := fun he => by subst he; rw [hS] at h2; cases h2
  refine ⟨h1, by simp [add, h2], fun hm => ?_, h4, z, T, d, c', h5, h6, h7.mono hle, ?_⟩
  · rcases hX j hm with h9 | h9
    · exact h3 h9
    · exact hji h9
  · rw [put_get (h.away hst ho hS hAX hh h5 d rfl).2]; exact h8

/-- A quiet operation of the plan's part behind us runs. -/
theorem DInv.late (hst : Stat l af an fl) {i : Nat} {o : AOper} (ho : l[i]? = some o) (h : DInv P N k l an fl K e0 ρ0 Pr h0 S a w X rest vals rs e H ρ hid)
    (hS : S i = false) (hAS : ∀ x ∈ anOf an i, S x = true) (hiX : i ∈ X) (hdN : ∀ d, o.dst = some d → d < N) {v' : Value} (hv : VRel ρ (vals i) v') :
    DInv P N k l an fl K e0 ρ0 Pr h0 (add S i) (a.put o.dst v') w X rest vals rs e H ρ hid where
  sub := fun j hj => by
    simp only [add] at hj
    split at hj
    · rename_i hji; subst hji; exact ⟨h.xlt j hiX, .inl hiX⟩
    · exact h.sub j hj
  clo := add_clo h.clo hAS
  plan := h.plan
  all := h.all
  xlt := h.xlt
  xclo := h.xclo
  syn := fun j hj o' ho' hs' => ⟨by simp [add, (h.syn j hj o' ho' hs').1], (h.syn j hj o' ho' hs').2⟩
  pend := fun j hj hSj o' ho' => h.pend j hj (by simp only [add] at hSj; split at hSj; · cases hSj
                                                 · exact hSj) o' ho'
  env := h.env
  act := by
    have := h.actAdd hst ho hS hdN (Emb.le_refl ρ) hv
    rw [upd_self] at this
    exact this
  size := by rw [put_size]; exact h.size
  defers := by rw [put_defs]; exact h.defers
  dw := h.dw
  mem := h.mem
  hok := h.hokAdd hst ho hS (fun x hx => inn_mem.1 (h.xclo i (inn_mem.2 hiX) x hx)) (fun x hx => .inl hx) (Emb.le_refl ρ) v'
  klen := h.klen
  agree := h.agree
  hro := h.hro
  hgl := h.hgl

theorem len_le {ρ' : Emb} {H' : AHeap} {Pr' : Nat → Prop} {h0' : Keep} {w' : World} (hm : Models ρ H Pr h0 w) (hm' : Models ρ' H' Pr' h0' w') (hag : ∀ m, m < H.length → ρ' m = ρ m) : H.length ≤ H'.length := by
  rcases Nat.lt_or_ge H'.length H.length with hlt | hge
  · obtain ⟨L, hL, _⟩ := hm.ok H'.length _ (List.getElem?_eq_getElem hlt)
    have := hag _ hlt
    rw [hm'.bound _ (Nat.le_refl _), hL] at this
    cases this
  · exact hge

/-- The plan's next operation runs. -/
theorem DInv.next (hst : Stat l af an fl) {i : Nat} {o : AOper} (ho : l[i]? = some o) (h : DInv P N k l an fl K e0 ρ0 Pr h0 S a w X (i :: rest) vals rs e H ρ hid)
    (hS : S i = false) (hAS : ∀ x ∈ anOf an i, S x = true) (hdN : ∀ d, o.dst = some d → d < N) {v v' : Value} {H' : AHeap} {ρ' : Emb} {w' : World} (hag : ∀ m, m < H.length → ρ' m = ρ m) (hv : VRel ρ' v v')
    (hm' : Models ρ' H' (hidPr Pr hid) (hidKeep h0 hid) w') (hre : H' = H ∨ recheck rs (anOf an i) H') (hdw : DW P an K (rest.filterMap fun i => (l[i]?).map (i, ·)) rs (bind o.dst v e) H') :
    DInv P N k l an fl K e0 ρ0 Pr h0 (add S i) (a.put o.dst v') w' (i :: X) rest (upd vals i v) rs (bind o.dst v e) H' ρ' hid := by
  obtain ⟨hil, hiX, hanc, hsy, hplan⟩ := plan_head h.plan
  have hle := agree_le h.mem hag
  have hiXf : inn X i = false := by
    cases hx : inn X i with
    | false => rfl
    | true => exact absurd (inn_mem.1 hx) hiX
  refine
    { sub := fun j hj => ?_
      clo := add_clo h.clo hAS
      plan := hplan
      all := fun j hj => ?_
      xlt := fun j hj => ?_
      xclo := ?_
      syn := fun j hj o' ho' hs' => ?_
      pend := fun j hj hSj o' ho' => ?_
      env := fun t => ?_
      act := h.actAdd hst ho hS hdN hle hv
      size := by rw [put_size]; exact h.size
      defers := by rw [put_defs]; exact h.defers
      dw := hdw
      mem := hm'
      hok := h.hokAdd hst ho hS hanc (fun x hx => (List.mem_cons.1 hx).symm) hle v'
      klen := Nat.le_trans h.klen (len_le h.mem hm' hag)
      agree := fun m hm => by rw [hag m (Nat.lt_of_lt_of_le hm h.klen), h.agree m hm]
      hro := h.hro
      hgl := h.hgl }
  · simp only [add] at hj
    split at hj
    · rename_i hji; subst hji; exact ⟨hil, .inl (by simp)⟩
    · exact ⟨(h.sub j hj).1, (h.sub j hj).2.imp (List.mem_cons_of_mem _) id⟩
  · rcases h.all j hj with h1 | h1
    · exact .inl (List.mem_cons_of_mem _ h1)
    · rcases List.mem_cons.1 h1 with rfl | h1
      · exact .inl (by simp)
      · exact .inr h1
  · rcases List.mem_cons.1 hj with rfl | h1
    · exact hil
    · exact h.xlt j h1
  · intro j hj d hd
    rcases List.mem_cons.1 (inn_mem.1 hj) with rfl | h1
    · exact inn_mem.2 (List.mem_cons_of_mem _ (hanc d hd))
    · exact inn_mem.2 (List.mem_cons_of_mem _ (inn_mem.1 (h.xclo j (inn_mem.2 h1) d hd)))
  · rcases List.mem_cons.1 hj with rfl | h1
    · obtain ⟨o2, ho2, hsy2⟩ := hsy
      rw [ho'] at ho2; cases ho2
      exact ⟨by simp [add], hsy2 hs'⟩
    · obtain ⟨h2, h3⟩ := h.syn j h1 o' ho' hs'
      exact ⟨by simp [add, h2], fun z hz => h3 z (List.mem_cons_of_mem _ hz)⟩
  · rcases List.mem_cons.1 hj with rfl | h1
    · simp [add] at hSj
    · have hji : j ≠ i := fun he => hiX (he ▸ h1)
      have hSj' : S j = false := by simpa [add, hji] using hSj
      obtain ⟨ej, h2⟩ := h.pend j h1 hSj' o' ho'
      have hia : i ∉ anOf an j := fun hm => hiX (inn_mem.1 (h.xclo j (inn_mem.2 h1) i hm))
      refine ⟨ej, ?_⟩
      rcases hre with rfl | hre
      · refine ⟨fun t ht => ?_, ?_⟩
        · rw [h2.same t ht]
          exact val_vals fun m hm => by
            have : m ≠ i := fun he => by subst he; exact hia (inn_mem.1 hm)
            simp [upd, this]
        · simp only [upd, if_neg hji]; exact h2.does
      · refine h2.keep hji hia hre (fun hm => ?_) fun r hr => hr
        have := hAS j hm
        rw [hSj'] at this; cases this
  · rw [inn_add, val_add hst.ord h.xclo hst.lt ho hiXf]
    cases hd : o.dst with
    | none => simp [bind, h.env t]
    | some d =>
      simp only [bind, look, Option.some.injEq]
      by_cases hdt : d = t
      · simp [hdt]
      · simp [hdt, h.env t]

/-- A block is made ahead of its place. -/
theorem DInv.ahead (hst : Stat l af an fl) {i d : Nat} {z : List Value} {T : TypeId} {c' : Array Value} (ho : l[i]? = some ⟨some d, .alloc z T, none⟩) (h : DInv P N k l an fl K e0 ρ0 Pr h0 S a w X rest vals rs e H ρ none)
    (hS : S i = false) (hAS : ∀ x ∈ anOf an i, S x = true) (hiX : i ∉ X) (hfl : fl = some i) (hdN : d < N) (hz : VsRel ρ z c'.toList) :
    DInv P N k l an fl K e0 ρ0 Pr h0 (add S i) (a.put (some d) (.pointer (some ⟨w.heap.size, 0, none⟩))) (w.alloc (.cells c' T)) X rest vals rs e H ρ (some (i, w.heap.size, .cells c' T)) := by
  have hm := h.mem
  rw [hidPr_none, hidKeep_none] at hm
  have hil : i < l.length := (List.getElem?_eq_some_iff.1 ho).1
  refine
    { sub := fun j hj => ?_
      clo := add_clo h.clo hAS
      plan := h.plan
      all := h.all
      xlt := h.xlt
      xclo := h.xclo
      syn := fun j hj o' ho' hs' => ⟨by simp [add, (h.syn j hj o' ho' hs').1], (h.syn j hj o' ho' hs').2⟩
      pend := fun j hj hSj o' ho' => h.pend j hj ?_ o' ho'
      env := h.env
      act := fun t u ht hu => ?_
      size := by rw [put_size]; exact h.size
      defers := by rw [put_defs]; exact h.defers
      dw := h.dw
      mem := ?_
      hok := ⟨fun j b ob hh => ?_⟩
      klen := h.klen
      agree := h.agree
      hro := h.hro
      hgl := h.hgl }
  · simp only [add] at hj
    split at hj
    · rename_i hji; subst hji; exact ⟨hil, .inr ⟨_, _, rfl⟩⟩
    · obtain ⟨h1, h2⟩ := h.sub j hj
      refine ⟨h1, ?_⟩
      rcases h2 with h2 | ⟨b, ob, h2⟩
      · exact .inl h2
      · cases h2
  · simp only [add] at hSj; split at hSj
    · cases hSj
    · exact hSj
  · have hdt : (some d : Option Nat) ≠ some t := ht i _ _ _ rfl ho
    have hu2 : val l e0 (upd vals i (vals i)) (add S i) t = some u := by rw [upd_self]; exact hu
    rw [val_add hst.ord h.clo hst.lt ho hS, if_neg hdt] at hu2
    obtain ⟨u', h1, h2⟩ := h.act t u (fun j b ob oj hh => by cases hh) hu2
    exact ⟨u', by rw [put_get hdt]; exact h1, h2⟩
  · have hlt : ∀ m x M, H[m]? = some x → x ≠ .dead → ρ m = some M → M.abs = false → M.blk < w.heap.size := fun m x M hx hd hM hab => by
      obtain ⟨M', hM', hMo⟩ := hm.ok m x hx
      rw [hM] at hM'; cases hM'
      exact hMo.lt hd hab
    refine ⟨fun m x hx => ?_, hm.bound, fun m x M hx hown hM hab hp => ?_, hm.inj, fun b hb => ?_, hm.ro, fun b hb => .inl (hm.rop b hb), fun x hx => ?_, hm.io⟩
    · obtain ⟨M, hM, hMo⟩ := hm.ok m x hx
      refine ⟨M, hM, ?_⟩
      by_cases hd : x = .dead
      · subst hd; trivial
      · exact hMo.mono (Emb.le_refl ρ) fun hab => alloc_old w _ (hlt m x M hx hd hM hab)
    · rcases hp with hp | ⟨j, ob, hp⟩
      · exact hm.own m x M hx hown hM hab hp
      · simp only [Option.some.injEq, Prod.mk.injEq] at hp
        have := hlt m x M hx (by rintro rfl; cases hown) hM hab
        omega
    · rcases hb with hb | ⟨j, ob, hb⟩
      · obtain ⟨h1, h2⟩ := hm.keep b hb
        have hne : b ≠ w.heap.size := by omega
        refine ⟨?_, by simp; omega⟩
        simp only [hidKeep, if_neg hne]
        rw [alloc_old w _ h2]; exact h1
      · cases hb
        refine ⟨?_, by simp⟩
        simp only [hidKeep, if_true]
        exact heap_alloc_new w _
    · obtain ⟨h1, h2⟩ := hm.glob x hx
      exact ⟨.inl h1, by rw [alloc_old w _ (hm.keep _ h1).2]; exact h2⟩
  · cases hh
    refine ⟨hfl, by simp [add], hiX, fun hp => ?_, z, T, d, c', ho, rfl, hz, by simp [Act.put, h.size, hdN]⟩
    have := (hm.keep _ hp).2
    omega
end
end Go.Abs
