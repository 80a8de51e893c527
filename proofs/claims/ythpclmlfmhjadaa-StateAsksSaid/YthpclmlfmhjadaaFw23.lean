/-
  Calls over a part of the memory; loops and results under other names.
-/
import Derived.Test.YthpclmlfmhjadaaFw22
set_option linter.unusedSectionVars false
set_option linter.unusedSimpArgs false
set_option linter.unusedVariables false
namespace Go.Abs
variable [Gl : Globals]

/-- The same state under other names; the first k names stay. -/
def Ren (k : Nat) (e1 : Env) (G : AHeap) (e : Env) (H : AHeap) : Prop :=
  ∃ τ : List Nat, τ.Nodup ∧ renOk (emb τ G.length) G τ H ∧ renE (emb τ G.length) e1 e ∧ ∀ i, i < k → emb τ G.length i = i

section
variable {P : Program} {hints : List String} {N k : Nat}

theorem sw_loopR {b : ACode} {s : List Item} {Q : APost} (I : Nat → Env → AHeap → Prop) {n : Nat} {e : Env} {H : AHeap} (h0 : ∃ e' H', Ren k e H e' H' ∧ I n e' H')
    (round : ∀ n e H, I n e H → AW P hints N k b (fun x e' H' => match x with | .normal => ∃ m, m < n ∧ ∃ e2 H2, Ren k e' H' e2 H2 ∧ I m e2 H2 | x => Cont P hints N k s Q x e' H') e H) : SW P hints N k (.code (.loop b) :: s) Q e H := by
  rw [SW_code]
  intro c hc
  cases c <;> simp only [ccode] at hc <;> first | (cases hc; done) | skip
  case loop c' =>
    split at hc
    · rename_i b' hb; cases hc
      intro ρ Pr hh a w hs
      obtain ⟨e0, H0, ⟨τ, hn, ho, he, hk⟩, hI⟩ := h0
      refine wp_loopN (fun n a w => ∃ ρ1 e1 H1, I n e1 H1 ∧ StRel N ρ1 Pr hh e1 H1 a w ∧ ∀ i, i < k → ρ1 i = ρ i) ?_ n a w ⟨_, e0, H0, hI, hs.ren hn ho he, fun i hi => by simp only [hk i hi]⟩
      rintro n a w ⟨ρ1, e1, H1, hI, hs1, hag⟩
      refine wp_mono (round n e1 H1 hI c' hb ρ1 Pr hh a w hs1) fun x a' w' ⟨ρ', e', H', hq, hs', hk'⟩ => ?_
      cases x with
      | normal =>
        obtain ⟨m, hm, e2, H2, ⟨τ, hn, ho, he, hk⟩, hI'⟩ := hq
        exact ⟨m, hm, _, e2, H2, hI', hs'.ren hn ho he, fun i hi => by simp only [hk i hi]; exact (hk' i hi).trans (hag i hi)⟩
      | exit id => exact ⟨ρ', e', H', hq, hs', fun i hi => (hk' i hi).trans (hag i hi)⟩
      | ret => exact ⟨ρ', e', H', hq, hs', fun i hi => (hk' i hi).trans (hag i hi)⟩
      | goto l => exact hq.elim
      | panic c => exact hq.elim
      | outgrown => exact hq.elim
    · cases hc
  all_goals (split at hc <;> first | (cases hc; done) | (split at hc <;> cases hc; done))

/-- A result under other names. -/
theorem ACalls.ren {f : FuncId} {args : List Value} {G : AHeap} {R R' : Value → AHeap → Prop} (h : ACalls P f args G R)
    (hR : ∀ v H, R v H → ∃ (v1 : Value) (H1 : AHeap) (τ : List Nat), τ.Nodup ∧ renOk (emb τ H.length) H τ H1 ∧ v = ren (emb τ H.length) v1 ∧ (∀ i, i < G.length → emb τ H.length i = i) ∧ R' v1 H1) : ACalls P f args G R' := by
  intro ρ Pr h0 w args' ha hm
  refine (h ρ Pr h0 w args' ha hm).mono fun e w' ⟨v, v', ρ', H', h1, h2, h3, h4, h5⟩ => ?_
  obtain ⟨v1, H1, τ, hn, ho, rfl, hk, hR'⟩ := hR v H' h2
  exact ⟨v1, v', _, H1, h1, hR', h3.unren, h4.ren hn ho, fun i hi => by simp only [hk i hi]; exact h5 i hi⟩

/-- What a call is given of the memory: each of its objects is there, or is there to be looked at. -/
def framOk (σ : Nat → Nat) (G : AHeap) : List Nat → AHeap → Prop
  | [], [] => True
  | t :: τ, o :: H => (match o with | .dead => t < G.length | .ro c => (match G[t]? with | some g => g.cells = some (renL σ c) | none => False) | o => G[t]? = some (o.ren σ)) ∧ framOk σ G τ H
  | _, _ => False

theorem framOk_get {σ : Nat → Nat} {G : AHeap} : ∀ {τ : List Nat} {H : AHeap}, framOk σ G τ H → τ.length = H.length ∧ ∀ (i : Nat) (o : AObj), H[i]? = some o → ∃ t, τ[i]? = some t ∧ t < G.length ∧
    (o = AObj.dead ∨ (∃ c g, o = .ro c ∧ G[t]? = some g ∧ g.cells = some (renL σ c)) ∨ (o.own = true ∧ G[t]? = some (o.ren σ)))
  | [], [], _ => by simp
  | t :: τ, o :: H, h => by
    obtain ⟨h1, h2⟩ := framOk_get h.2
    refine ⟨by simp [h1], fun i x hx => ?_⟩
    cases i with
    | zero =>
      simp at hx; subst hx
      refine ⟨t, rfl, ?_⟩
      have h3 := h.1
      split at h3
      · exact ⟨h3, .inl rfl⟩
      · split at h3
        · rename_i g hg; exact ⟨(List.getElem?_eq_some_iff.1 hg).1, .inr (.inl ⟨_, g, rfl, hg, h3⟩)⟩
        · exact h3.elim
      · rename_i hd hr
        refine ⟨(List.getElem?_eq_some_iff.1 h3).1, .inr (.inr ⟨?_, h3⟩)⟩
        cases o <;> first | rfl | exact absurd rfl hd | exact absurd rfl (hr _)
    | succ i => simp only [List.getElem?_cons_succ] at hx ⊢; exact h2 i x hx
  | [], _ :: _, h => h.elim
  | _ :: _, [], h => h.elim

def upds (σ : Nat → Nat) : AHeap → List Nat → AHeap → AHeap → AHeap
  | G, t :: τ, c :: C, c' :: C' => upds σ (if c.own = true then G.set t (c'.ren σ) else G) τ C C'
  | G, _, _, _ => G

theorem upds_len {σ : Nat → Nat} : ∀ {τ : List Nat} {G C C' : AHeap}, (upds σ G τ C C').length = G.length
  | [], G, C, C' => by simp [upds]
  | t :: τ, G, [], C' => by simp [upds]
  | t :: τ, G, c :: C, [] => by simp [upds]
  | t :: τ, G, c :: C, c' :: C' => by
    simp only [upds]; rw [upds_len]; split <;> simp

theorem upds_get {σ : Nat → Nat} : ∀ {τ : List Nat} {G C C' : AHeap}, τ.Nodup → τ.length = C.length → C.length ≤ C'.length → ∀ j, j < G.length →
    (∃ (i : Nat) (c c' : AObj), τ[i]? = some j ∧ C[i]? = some c ∧ c.own = true ∧ C'[i]? = some c' ∧ (upds σ G τ C C')[j]? = some (c'.ren σ)) ∨
    ((∀ (i : Nat) (c : AObj), τ[i]? = some j → C[i]? = some c → c.own = false) ∧ (upds σ G τ C C')[j]? = G[j]?)
  | [], G, C, C', _, _, _, j, hj => .inr ⟨by simp, by simp [upds]⟩
  | t :: τ, G, [], C', _, h, _, j, hj => by simp at h
  | t :: τ, G, c :: C, [], _, _, h, j, hj => by simp at h
  | t :: τ, G, c :: C, c' :: C', hn, hl, hl', j, hj => by
    obtain ⟨hn1, hn2⟩ := List.nodup_cons.1 hn
    have hG : j < (if c.own = true then G.set t (c'.ren σ) else G).length := by split <;> simpa using hj
    rcases upds_get (σ := σ) (G := if c.own = true then G.set t (c'.ren σ) else G) hn2 (by simpa using hl) (by simpa using hl') j hG with ⟨i, x, x', h1, h2, h3, h4, h5⟩ | ⟨h1, h2⟩
    · exact .inl ⟨i + 1, x, x', by simpa using h1, by simpa using h2, h3, by simpa using h4, by simpa [upds] using h5⟩
    · by_cases htj : t = j
      · subst htj
        cases hc : c.own with
        | true =>
          refine .inl ⟨0, c, c', rfl, rfl, hc, rfl, ?_⟩
          simp only [upds]
          rw [h2, hc]
          simp [hj]
        | false =>
          refine .inr ⟨fun i x hi hx => ?_, ?_⟩
          · cases i with
            | zero => simp at hx; subst hx; exact hc
            | succ i => exact h1 i x (by simpa using hi) (by simpa using hx)
          · simp only [upds]; rw [h2, hc]; simp
      · refine .inr ⟨fun i x hi hx => ?_, ?_⟩
        · cases i with
          | zero => simp at hi; exact absurd hi htj
          | succ i => exact h1 i x (by simpa using hi) (by simpa using hx)
        · simp only [upds]; rw [h2]
          split
          · rw [List.getElem?_set_ne htj]
          · rfl

/-- The memory behind a call over a part of it. -/
def back (σ : Nat → Nat) (G : AHeap) (τ : List Nat) (C C' : AHeap) : AHeap := upds σ G τ C C' ++ (C'.drop C.length).map (AObj.ren σ)

def noNewRo (C C' : AHeap) : Prop := (∀ (i : Nat) (c : List Value), C'[i]? = some (.ro c) → C.length ≤ i → False) ∧ ∀ (i : Nat) (o : AObj) (c : List Value), C'[i]? = some (.ro c) → C[i]? = some o → o.own = false

theorem ACalls.frame {f : FuncId} {args args0 : List Value} {G C : AHeap} {R R' : Value → AHeap → Prop} (τ : List Nat) (hn : τ.Nodup) (hf : framOk (emb τ G.length) G τ C)
    (hargs : ∀ ρ Pr h0 w args', VsRel ρ args args' → Models ρ G Pr h0 w → VsRel (fun i => ρ (emb τ G.length i)) args0 args') (h : ACalls P f args0 C R)
    (hR : ∀ v C', R v C' → noNewRo C C' ∧ (C.length ≤ C'.length → R' (Abs.ren (emb τ G.length) v) (back (emb τ G.length) G τ C C'))) : ACalls P f args G R' := by
  intro ρ Pr h0 w args' ha hm
  obtain ⟨hl, hg⟩ := framOk_get hf
  -- the blocks that the callee leaves alone
  let Al : Nat → Prop := fun b => ∃ j o L, G[j]? = some o ∧ o.own = true ∧ ρ j = some L ∧ L.abs = false ∧ L.blk = b ∧ ∀ (i : Nat) (c : AObj), τ[i]? = some j → C[i]? = some c → c.own = false
  let Pr' : Nat → Prop := fun b => Pr b ∨ Al b
  let h0' : Keep := ⟨fun b => w.heap[b]?, fun b => h0.ro b ∨ Al b, h0.w0⟩
  have hmC : Models (fun i => ρ (emb τ G.length i)) C Pr' h0' w := by
    constructor
    · intro i o ho
      obtain ⟨t, h1, h2, h3⟩ := hg i o ho
      obtain ⟨L, hL, hok⟩ := hm.ok t _ (List.getElem?_eq_getElem h2)
      refine ⟨L, by simp only [emb_in h1]; exact hL, ?_⟩
      rcases h3 with rfl | ⟨c, g, rfl, h3, h4⟩ | ⟨_, h3⟩
      · trivial
      · rw [List.getElem?_eq_getElem h2] at h3
        simp only [Option.some.injEq] at h3
        rw [h3] at hok
        have := hok.borrow h4
        exact ObjOk.unren (o := .ro c) this
      · rw [List.getElem?_eq_getElem h2] at h3
        simp only [Option.some.injEq] at h3
        rw [h3] at hok
        exact hok.unren
    · intro i hi
      show ρ (emb τ G.length i) = none
      rw [emb_out (by omega)]
      exact hm.bound _ (by omega)
    · intro i o L ho hown hL hab hp
      obtain ⟨t, h1, h2, h3⟩ := hg i o ho
      simp only [emb_in h1] at hL
      rcases h3 with rfl | ⟨c, g, rfl, _⟩ | ⟨_, h3⟩
      · cases hown
      · cases hown
      · rcases hp with hp | ⟨j, oj, Lj, hj, hjo, hjL, hja, hjb, hno⟩
        · exact hm.own t _ L h3 (by rw [ren_own]; exact hown) hL hab hp
        · by_cases htj : t = j
          · subst htj
            have := hno i o h1 ho
            rw [hown] at this; cases this
          · exact hm.inj j t oj _ Lj L (Ne.symm htj) hj h3 hjo (by rw [Ne, ren_dead]; rintro rfl; cases hown) hjL hL hja hab hjb
    · intro i j oi oj Li Lj hij hi hj hown hd hLi hLj hai haj
      obtain ⟨t, h1, h2, h3⟩ := hg i oi hi
      obtain ⟨u, h4, h5, h6⟩ := hg j oj hj
      simp only [emb_in h1] at hLi
      simp only [emb_in h4] at hLj
      have htu : t ≠ u := fun he => hij (nodup_get hn h1 (he ▸ h4))
      rcases h3 with rfl | ⟨c, g, rfl, _⟩ | ⟨_, h3⟩
      · cases hown
      · cases hown
      · have h3o : (oi.ren (emb τ G.length)).own = true := by rw [ren_own]; exact hown
        rcases h6 with rfl | ⟨c, g, rfl, h6, h7⟩ | ⟨_, h6⟩
        · exact absurd rfl hd
        · exact hm.inj t u _ g Li Lj htu h3 h6 h3o (by rintro rfl; cases h7) hLi hLj hai haj
        · exact hm.inj t u _ _ Li Lj htu h3 h6 h3o (by rw [Ne, ren_dead]; exact hd) hLi hLj hai haj
    · intro b hb
      refine ⟨rfl, ?_⟩
      rcases hb with hb | ⟨j, o, L, hj, ho, hL, hab, rfl, _⟩
      · exact (hm.keep b hb).2
      · obtain ⟨M, hM, hok⟩ := hm.ok j o hj
        rw [hL] at hM; cases hM
        exact hok.lt (by rintro rfl; cases ho) hab
    · intro i c L ho hL hab
      obtain ⟨t, h1, h2, h3⟩ := hg i _ ho
      simp only [emb_in h1] at hL
      rcases h3 with h3 | ⟨c', g, hc, h3, h4⟩ | ⟨h3, _⟩
      · cases h3
      · cases hc
        cases hgo : g.own with
        | true =>
          refine .inr ⟨t, g, L, h3, hgo, hL, hab, rfl, fun i' c'' hi' hc'' => ?_⟩
          have := nodup_get hn h1 hi'
          subst this
          rw [ho] at hc''; cases hc''; rfl
        | false =>
          cases g <;> simp only [AObj.own, AObj.cells] at hgo h4 <;> first | (cases hgo; done) | (cases h4; done) | skip
          exact .inl (hm.ro t _ L h3 hL hab)
      · cases h3
    · rintro b (hb | hb)
      · exact .inl (hm.rop b hb)
      · exact .inr hb
    · exact fun x hx => ⟨.inl (hm.glob x hx).1, (hm.glob x hx).2⟩
    · exact hm.io
  refine (h _ Pr' h0' w args' (hargs ρ Pr h0 w args' ha hm) hmC).mono fun e w' ⟨v, v', ρ', C', h1, h2, h3, h4, h5⟩ => ?_
  obtain ⟨hnr, hR'⟩ := hR v C' h2
  have hlen : C.length ≤ C'.length := len_le hmC h4 h5
  let ρ2 : Emb := fun j => if j < G.length then ρ j else ρ' (C.length + (j - G.length))
  have hρ2 : (fun i => ρ2 (emb τ G.length i)) = ρ' := by
    funext i
    rcases Nat.lt_or_ge i C.length with hi | hi
    · obtain ⟨t, h6, h7, _⟩ := hg i _ (List.getElem?_eq_getElem hi)
      simp only [emb_in h6, ρ2, if_pos h7]
      have := h5 i hi
      simp only [emb_in h6] at this
      exact this.symm
    · simp only [emb_out (τ := τ) (g := G.length) (i := i) (by omega), ρ2]
      rw [if_neg (by omega)]
      congr 1; omega
  have hold : ∀ j, j < G.length → ρ2 j = ρ j := fun j hj => by simp [ρ2, hj]
  have hnew : ∀ m, ρ2 (G.length + m) = ρ' (C.length + m) := fun m => by
    simp only [ρ2]; rw [if_neg (by omega)]; congr 1; omega
  have hl2 : (upds (emb τ G.length) G τ C C').length = G.length := upds_len
  -- each object behind the call: one of the callee's, or one left alone
  have hget : ∀ (j : Nat) (o : AObj), (back (emb τ G.length) G τ C C')[j]? = some o →
      (∃ (i : Nat) (c' : AObj), C'[i]? = some c' ∧ emb τ G.length i = j ∧ o = c'.ren (emb τ G.length) ∧ (∀ c : AObj, C[i]? = some c → c.own = true)) ∨
      (j < G.length ∧ G[j]? = some o ∧ ∀ (i : Nat) (c : AObj), τ[i]? = some j → C[i]? = some c → c.own = false) := by
    intro j o hj
    unfold back at hj
    rcases Nat.lt_or_ge j G.length with hlt | hge
    · rw [List.getElem?_append_left (by omega)] at hj
      rcases upds_get (σ := emb τ G.length) (G := G) hn hl hlen j hlt with ⟨i, c, c', g1, g2, g3, g4, g5⟩ | ⟨g1, g2⟩
      · rw [g5] at hj; cases hj
        refine .inl ⟨i, c', g4, emb_in g1, rfl, fun c2 hc2 => ?_⟩
        rw [g2] at hc2; cases hc2; exact g3
      · rw [g2] at hj
        exact .inr ⟨hlt, hj, g1⟩
    · rw [List.getElem?_append_right (by omega), hl2, List.getElem?_map, List.getElem?_drop] at hj
      cases hc : C'[C.length + (j - G.length)]? with
      | none => simp [hc] at hj
      | some c' =>
        simp [hc] at hj; subst hj
        refine .inl ⟨_, c', hc, ?_, rfl, fun c hc2 => ?_⟩
        · rw [emb_out (by omega)]; omega
        · rw [List.getElem?_eq_none (by omega)] at hc2; cases hc2
  have hρC : ∀ i, ρ2 (emb τ G.length i) = ρ' i := fun i => congrFun hρ2 i
  -- blocks of what is left alone are the callee's protected ones
  have halone : ∀ {j : Nat} {o : AObj} {L : Loc}, G[j]? = some o → (∀ (i : Nat) (c : AObj), τ[i]? = some j → C[i]? = some c → c.own = false) → o ≠ .dead → ρ j = some L → L.abs = false → Pr' L.blk := by
    intro j o L hj hno hd hL hab
    cases ho : o.own with
    | true => exact .inr ⟨j, o, L, hj, ho, hL, hab, rfl, hno⟩
    | false =>
      cases o <;> simp only [AObj.own] at ho <;> first | (cases ho; done) | skip
      · exact absurd rfl hd
      · exact .inl (hm.rop _ (hm.ro j _ L hj hL hab))
  have hCro : ∀ {i : Nat} {c' : AObj}, C'[i]? = some c' → (∀ c : AObj, C[i]? = some c → c.own = true) → ∀ c, c' ≠ .ro c := by
    intro i c' hc' hown c he
    subst he
    rcases Nat.lt_or_ge i C.length with hi | hi
    · have := hnr.2 i _ c hc' (List.getElem?_eq_getElem hi)
      rw [hown _ (List.getElem?_eq_getElem hi)] at this; cases this
    · exact hnr.1 i c hc' hi
  have hCown : ∀ {i : Nat} {c' : AObj}, C'[i]? = some c' → (∀ c : AObj, C[i]? = some c → c.own = true) → c' ≠ .dead → c'.own = true := by
    intro i c' hc' hown hd
    have := hCro hc' hown
    cases c' <;> first | rfl | exact absurd rfl hd | exact absurd rfl (this _)
  refine ⟨_, v', ρ2, _, h1, hR' hlen, ?_, ?_, fun i hi => hold i hi⟩
  · refine VRel.reren ?_
    rw [hρ2]; exact h3
  · constructor
    · intro j o hj
      rcases hget j o hj with ⟨i, c', g1, g2, rfl, g4⟩ | ⟨g1, g2, g3⟩
      · obtain ⟨L, hL, hok⟩ := h4.ok i c' g1
        refine ⟨L, by rw [← g2, hρC]; exact hL, ?_⟩
        refine ObjOk.reren ?_
        rw [hρ2]; exact hok
      · obtain ⟨L, hL, hok⟩ := hm.ok j o g2
        refine ⟨L, by rw [hold j g1]; exact hL, ?_⟩
        by_cases hd : o = .dead
        · subst hd; trivial
        · have hpr := fun hab => (h4.keep L.blk (halone g2 g3 hd hL hab)).1
          have hle : ρ.le ρ2 := agree_le hm hold
          exact hok.mono hle fun hab => hpr hab
    · intro j hj
      unfold back at hj
      simp only [List.length_append, List.length_map, List.length_drop, hl2] at hj
      have : j = G.length + (j - G.length) := by omega
      rw [this, hnew]
      exact h4.bound _ (by omega)
    · intro j o L hj hown hL hab hp
      rcases hget j o hj with ⟨i, c', g1, g2, rfl, g4⟩ | ⟨g1, g2, g3⟩
      · rw [ren_own] at hown
        rw [← g2, hρC] at hL
        exact h4.own i c' L g1 hown hL hab (.inl hp)
      · rw [hold j g1] at hL
        exact hm.own j o L g2 hown hL hab hp
    · intro j j' o o' L L' hjj hj hj' hown hd hL hL' hab hab'
      rcases hget j o hj with ⟨i, c', g1, g2, rfl, g4⟩ | ⟨g1, g2, g3⟩ <;> rcases hget j' o' hj' with ⟨i', c'', g1', g2', rfl, g4'⟩ | ⟨g1', g2', g3'⟩
      · rw [ren_own] at hown
        rw [Ne, ren_dead] at hd
        rw [← g2, hρC] at hL
        rw [← g2', hρC] at hL'
        exact h4.inj i i' c' c'' L L' (fun he => hjj (by rw [← g2, ← g2', he])) g1 g1' hown hd hL hL' hab hab'
      · rw [ren_own] at hown
        rw [← g2, hρC] at hL
        rw [hold j' g1'] at hL'
        have := halone g2' g3' hd hL' hab'
        exact fun he => h4.own i c' L g1 hown hL hab (he ▸ this)
      · rw [Ne, ren_dead] at hd
        rw [← g2', hρC] at hL'
        rw [hold j g1] at hL
        have hdj : o ≠ .dead := by rintro rfl; cases hown
        have := halone g2 g3 hdj hL hab
        exact fun he => h4.own i' c'' L' g1' (hCown g1' g4' hd) hL' hab' (he ▸ this)
      · rw [hold j g1] at hL; rw [hold j' g1'] at hL'
        exact hm.inj j j' o o' L L' hjj g2 g2' hown hd hL hL' hab hab'
    · intro b hb
      obtain ⟨k1, k2⟩ := hm.keep b hb
      obtain ⟨k3, k4⟩ := h4.keep b (.inl hb)
      exact ⟨k3.trans k1, k4⟩
    · intro j c L hj hL hab
      rcases hget j _ hj with ⟨i, c', g1, g2, g3, g4⟩ | ⟨g1, g2, g3⟩
      · cases c' <;> simp only [AObj.ren] at g3 <;> cases g3
        exact absurd rfl (hCro g1 g4 _)
      · rw [hold j g1] at hL
        exact hm.ro j c L g2 hL hab
    · exact hm.rop
    · exact fun x hx => ⟨(hm.glob x hx).1, (h4.glob x hx).2⟩
    · exact h4.io
end
end Go.Abs
