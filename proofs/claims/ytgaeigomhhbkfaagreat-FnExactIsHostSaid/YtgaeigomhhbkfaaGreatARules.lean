/- What is left to be shown suffices: for code, and for a whole function. No program in sight. -/
import Derived.Test.YtgaeigomhhbkfaaGreatABack
namespace Go.Proofs.YtgaeigomhhbkfaaGreat
open Go.RowKit
set_option linter.unusedVariables false
set_option linter.unusedSimpArgs false
set_option linter.unusedSectionVars false
variable [GC]

section
variable {P : Program} {tab : Nat → List CT}
theorem EnvTy.append {Γ Δ : List VT} {env ds : List D} (h : EnvTy tab Γ env) (hl : env.length = Γ.length) (hd : HasTys tab Δ ds) : EnvTy tab (Γ ++ Δ) (env ++ ds) := by
  have key : ∀ (Δ : List VT) (ds : List D), HasTys tab Δ ds → ∀ (i : Nat) (t : VT), Δ[i]? = some t → HasVT tab t (ds.getD i .un) := by
    intro Δ
    induction Δ with
    | nil => intro ds _ i t h; simp at h
    | cons v Δ ih =>
      intro ds hd i t h
      cases ds with
      | nil => exact hd.elim
      | cons d r =>
        cases i with
        | zero => simp at h; subst h; exact hd.1
        | succ i => simp at h; simpa using ih r hd.2 i t h
  intro i t ht
  rw [List.getElem?_append] at ht
  split at ht
  · rename_i hi
    have := h i t ht
    rwa [List.getD, List.getElem?_append_left (by omega)]
  · rename_i hi
    have := key Δ ds hd _ t ht
    rw [List.getD, List.getElem?_append_right (by omega), hl]
    exact this
theorem hasTys_length : ∀ {ts : List VT} {ds : List D}, HasTys tab ts ds → ds.length = ts.length
  | [], [], _ => rfl
  | t :: ts, d :: ds, h => by simp [hasTys_length h.2]
  | [], _ :: _, h => h.elim
  | _ :: _, [], h => h.elim
theorem rowTy_tys : ∀ {ts : List CT} {ds : List D}, RowTy tab ts ds → HasTys tab (ts.map fun t => .one (.c t)) ds
  | [], [], _ => trivial
  | t :: ts, d :: ds, h => by simp only [RowTy] at h; exact ⟨h.1, rowTy_tys h.2⟩
  | [], _ :: _, h => by simp [RowTy] at h
  | _ :: _, [], h => by simp [RowTy] at h
/-- One operation's requirements: their values, and what goes on. -/
theorem rq_den {Q : D → List D → Prop} {L : List (List D → Prop)} : ∀ (rs : List Rq) (k : VC) (env : List D), (∀ r ∈ rs, rqBel env.length r = true) → (rs.length ≤ 1) → (rs.foldr VC.rq k).den P tab env Q L →
    ∃ ds, HasTys tab (rqTys rs) ds ∧ (∀ more, ∀ r ∈ rs, RqH P (env ++ ds ++ more) env.length r) ∧ k.den P tab (env ++ ds) Q L
  | [], k, env, _, _, h => ⟨[], trivial, fun _ r hr => by simp at hr, by simpa using h⟩
  | [.cond gs c], k, env, hb, _, h => by
    have hb := hb (.cond gs c) (by simp)
    simp only [rqBel, Bool.and_eq_true] at hb
    obtain ⟨h1, h2⟩ := h
    refine ⟨[], trivial, fun more r hr => ?_, by simpa using h2⟩
    simp only [List.mem_singleton] at hr; subst hr
    have ha : Agr env.length env (env ++ [] ++ more) := by rw [List.append_nil]; exact Agr.of (Nat.le_refl _)
    intro hg
    rw [ha c hb.2]
    exact h1 ((gsH_agr ha hb.1).1 hg)
  | [.glob g vt ix], k, env, hb, _, h => by
    have hb := hb (.glob g vt ix) (by simp)
    obtain ⟨d, h1, h2, h3, h4⟩ := h
    refine ⟨[d], ⟨h1, trivial⟩, fun more r hr => ?_, h4⟩
    simp only [List.mem_singleton] at hr; subst hr
    have e : (env ++ [d] ++ more).getD env.length .un = d := by simp [List.getD]
    refine ⟨by rw [e]; exact h2, ?_, ?_⟩
    · cases ix with
      | none => trivial
      | some x =>
        obtain ⟨gs, ei, n⟩ := x
        simp only [rqBel, Bool.and_eq_true] at hb
        have ha : Agr env.length env (env ++ [d] ++ more) := by rw [List.append_assoc]; exact Agr.of (Nat.le_refl _)
        intro hg
        rw [ha ei hb.2]
        exact h3 ((gsH_agr ha hb.1).1 hg)
    · rw [e]
      unfold AggOk
      split
      · obtain ⟨l, q1, q2⟩ := hasV1_agg h1
        exact ⟨l, q1, q2.length⟩
      · trivial
  | [.new f args nb], k, env, hb, _, h => by
    have hb := hb (.new f args nb) (by simp)
    simp only [rqBel] at hb
    obtain ⟨cs, h2, h3, h4⟩ := h
    refine ⟨cs, ?_, fun more r hr => ?_, h4⟩
    · simp only [rqTys, List.append_nil]
      exact rowTy_tys h2
    · simp only [List.mem_singleton] at hr; subst hr
      have ha : Agr env.length env (env ++ cs ++ more) := by rw [List.append_assoc]; exact Agr.of (Nat.le_refl _)
      have e1 : args.map (·.den (env ++ cs ++ more)) = args.map (·.den env) := List.map_congr_left fun e he => ha e (List.all_eq_true.1 hb e he)
      have e4 : (List.range nb.length).map (fun j => (env ++ cs ++ more).getD (env.length + j) .un) = cs := by
        have hl := h2.length
        refine List.ext_getElem? fun i => ?_
        simp only [List.getElem?_map]
        by_cases hi : i < nb.length
        · rw [List.getElem?_range hi]
          simp only [Option.map_some, List.getD]
          rw [List.append_assoc, List.getElem?_append_right (by omega), show env.length + i - env.length = i by omega]
          simp [List.getElem?_append_left (show i < cs.length by omega), List.getElem?_eq_getElem (show i < cs.length by omega)]
        · rw [List.getElem?_eq_none (by simp; omega), List.getElem?_eq_none (by omega)]; rfl
      show FunN P f _ _
      rw [e1, e4]
      exact h3
  | [.call gs f bx args vt nb], k, env, hb, _, h => by
    have hb := hb (.call gs f bx args vt nb) (by simp)
    simp only [rqBel, Bool.and_eq_true] at hb
    obtain ⟨d, cs, h1, h2, h3, h4⟩ := h
    refine ⟨d :: cs, ?_, fun more r hr => ?_, h4⟩
    · simp only [rqTys, List.append_nil]
      exact ⟨h1, rowTy_tys h2⟩
    · simp only [List.mem_singleton] at hr; subst hr
      have ha : Agr env.length env (env ++ d :: cs ++ more) := by rw [List.append_assoc]; exact Agr.of (Nat.le_refl _)
      intro hg
      have hf := h3 ((gsH_agr ha hb.1.1).1 hg)
      have e1 : args.map (·.den (env ++ d :: cs ++ more)) = args.map (·.den env) := List.map_congr_left fun e he => ha e (List.all_eq_true.1 hb.2 e he)
      have e2 : bx.map (·.map (·.den (env ++ d :: cs ++ more))) = bx.map (·.map (·.den env)) := by
        cases bx with
        | none => rfl
        | some l => simp only [Option.map_some]; exact congrArg some (List.map_congr_left fun e he => ha e (List.all_eq_true.1 hb.1.2 e he))
      have e3 : (env ++ d :: cs ++ more).getD env.length .un = d := by simp [List.getD]
      have e4 : (List.range nb.length).map (fun j => (env ++ d :: cs ++ more).getD (env.length + 1 + j) .un) = cs := by
        have hl := h2.length
        refine List.ext_getElem? fun i => ?_
        simp only [List.getElem?_map]
        by_cases hi : i < nb.length
        · rw [List.getElem?_range hi]
          simp only [Option.map_some, List.getD]
          rw [List.append_assoc, List.getElem?_append_right (by omega), show env.length + 1 + i - env.length = i + 1 by omega]
          simp [List.getElem?_append_left (show i < cs.length by omega), List.getElem?_eq_getElem (show i < cs.length by omega)]
        · rw [List.getElem?_eq_none (by simp; omega), List.getElem?_eq_none (by omega)]; rfl
      rw [e1, e2, e3, e4]
      exact hf
  | [.callV gs e args vt], k, env, hb, _, h => by
    have hb := hb (.callV gs e args vt) (by simp)
    simp only [rqBel, Bool.and_eq_true] at hb
    obtain ⟨d, h1, h3, h4⟩ := h
    refine ⟨[d], ?_, fun more r hr => ?_, h4⟩
    · simp only [rqTys]
      exact ⟨h1, trivial⟩
    · simp only [List.mem_singleton] at hr; subst hr
      have ha : Agr env.length env (env ++ [d] ++ more) := by rw [List.append_assoc]; exact Agr.of (Nat.le_refl _)
      intro hg
      have hf := h3 ((gsH_agr ha hb.1.1).1 hg)
      have e1 : args.map (·.den (env ++ [d] ++ more)) = args.map (·.den env) := List.map_congr_left fun e he => ha e (List.all_eq_true.1 hb.2 e he)
      have e3 : (env ++ [d] ++ more).getD env.length .un = d := by simp [List.getD]
      rw [e1, e3, ha e hb.1.2]
      exact hf
  | [.callR f bx args vt nb rt], k, env, hb, _, h => by
    have hb := hb (.callR f bx args vt nb rt) (by simp)
    simp only [rqBel, Bool.and_eq_true] at hb
    obtain ⟨d, cs, h1, h2, h3, h4⟩ := h
    refine ⟨d :: cs, ?_, fun more r hr => ?_, h4⟩
    · simp only [rqTys, List.append_nil]
      exact ⟨h1, rowTy_tys h2⟩
    · simp only [List.mem_singleton] at hr; subst hr
      have ha : Agr env.length env (env ++ d :: cs ++ more) := by rw [List.append_assoc]; exact Agr.of (Nat.le_refl _)
      have hf := h3
      have e1 : args.map (·.den (env ++ d :: cs ++ more)) = args.map (·.den env) := List.map_congr_left fun e he => ha e (List.all_eq_true.1 hb.2 e he)
      have e2 : bx.map (·.map (·.den (env ++ d :: cs ++ more))) = bx.map (·.map (·.den env)) := by
        cases bx with
        | none => rfl
        | some l => simp only [Option.map_some]; exact congrArg some (List.map_congr_left fun e he => ha e (List.all_eq_true.1 hb.1 e he))
      have e3 : (env ++ d :: cs ++ more).getD env.length .un = d := by simp [List.getD]
      have e4 : (List.range nb.length).map (fun j => (env ++ d :: cs ++ more).getD (env.length + 1 + j) .un) = cs := by
        have hl := h2.length
        refine List.ext_getElem? fun i => ?_
        simp only [List.getElem?_map]
        by_cases hi : i < nb.length
        · rw [List.getElem?_range hi]
          simp only [Option.map_some, List.getD]
          rw [List.append_assoc, List.getElem?_append_right (by omega), show env.length + 1 + i - env.length = i + 1 by omega]
          simp [List.getElem?_append_left (show i < cs.length by omega), List.getElem?_eq_getElem (show i < cs.length by omega)]
        · rw [List.getElem?_eq_none (by simp; omega), List.getElem?_eq_none (by omega)]; rfl
      refine ⟨by rw [e3]; exact ShapeOk.of h1, ?_⟩
      rw [e1, e2, e3, e4]
      exact hf
  | _ :: _ :: _, _, _, _, hl, _ => by simp at hl
theorem rqs_den {Q : D → List D → Prop} {L : List (List D → Prop)} : ∀ (es : List Eff) (k : VC) (env : List D) (Γ : List VT), EnvTy tab Γ env → env.length = Γ.length → effsBel Γ.length es = true → (∀ e ∈ es, e.rq.length ≤ 1) → (rqs es k).den P tab env Q L →
    ∃ ds, EnvTy tab (Γ ++ es.flatMap fun e => rqTys e.rq) (env ++ ds) ∧ (env ++ ds).length = (Γ ++ es.flatMap fun e => rqTys e.rq).length ∧ (∀ more, RqsH P (env ++ ds ++ more) Γ.length es) ∧ k.den P tab (env ++ ds) Q L
  | [], k, env, Γ, hE, hl, _, _, h => ⟨[], by simpa using hE, by simpa using hl, fun _ => trivial, by simpa [rqs] using h⟩
  | e :: r, k, env, Γ, hE, hl, hb, h1, h => by
    simp only [effsBel, Bool.and_eq_true, List.all_eq_true] at hb
    obtain ⟨ds, d1, d2, d3⟩ := rq_den e.rq (rqs r k) env (by rw [hl]; exact hb.1) (h1 e (by simp)) h
    have hdl := hasTys_length d1
    have hE' := hE.append hl d1
    obtain ⟨ds', q1, q2, q3, q4⟩ := rqs_den r k (env ++ ds) (Γ ++ rqTys e.rq) hE' (by simp [hl, hdl]) (by simpa using hb.2) (fun x hx => h1 x (by simp [hx])) d3
    refine ⟨ds ++ ds', by simpa [List.append_assoc] using q1, by simpa [List.append_assoc] using q2, fun more => ⟨fun x hx => ?_, ?_⟩, by simpa [List.append_assoc] using q4⟩
    · have := d2 (ds' ++ more) x hx
      rw [hl] at this
      simpa [List.append_assoc] using this
    · have := q3 more
      simpa [List.append_assoc] using this
end
theorem regRun_tys {cx : Cx} {ops : Array Oper} : ∀ {l : List Oper} {ss : SS} {es : List Eff} {s : SS}, regRun cx ops l ss = some (es, s) → s.Γ = ss.Γ ++ es.flatMap fun e => rqTys e.rq
  | [], ss, es, s, h => by simp [regRun] at h; obtain ⟨rfl, rfl⟩ := h; simp
  | o :: r, ss, es, s, h => by
    simp only [regRun] at h
    split at h
    · simp at h
    · split at h
      · simp at h
      · rename_i e he es' s' hrec
        simp only [Option.some.injEq, Prod.mk.injEq] at h
        obtain ⟨rfl, rfl⟩ := h
        rw [regRun_tys hrec]
        simp [SS.step]
section
variable {P : Program} {fx : Fx} {c0 : SC}
/-- A state of expressions tells the truth, with these values. -/
def Good (c0 : SC) (tab : Nat → List CT) (env : List D) (s : SS) (a : Act) (w : World) : Prop :=
  EnvTy tab s.Γ env ∧ env.length = s.Γ.length ∧ ∃ bm tm, Sim { c0 with env := env } (below s.nt) s.σ.get bm tm a w
/-- What holds where code goes on with k. -/
def Goes (P : Program) (c0 : SC) (tab : Nat → List CT) (Q : D → List D → Prop) (env : List D) (L : List (List D → Prop)) (k : SS → VC) (a : Act) (w : World) : Prop :=
  ∃ (more : List D) (pre : List (List D → Prop)) (s : SS), Good c0 tab (env ++ more) s a w ∧ (pre ++ L).length = s.lv ∧ (k s).den P tab (env ++ more) Q (pre ++ L)
/-- What holds where the function returns. -/
def Rets (P : Program) (fx : Fx) (c0 : SC) (Q : D → List D → Prop) (a : Act) (w : World) : Prop :=
  ∃ (env : List D) (s : SS) (L : List (List D → Prop)), Good c0 fx.cx.tb.tab env s a w ∧ (retVC fx s).den P fx.cx.tb.tab env Q L
def Post (P : Program) (fx : Fx) (c0 : SC) (Q : D → List D → Prop) (env : List D) (L : List (List D → Prop)) (ex : List (Nat × (SS → VC))) (k : SS → VC) : Exit → Act → World → Prop
  | .normal, a, w => Goes P c0 fx.cx.tb.tab Q env L k a w
  | .exit id, a, w => ∃ k', lookupE id ex = some k' ∧ Goes P c0 fx.cx.tb.tab Q env L k' a w
  | .ret, a, w => Rets P fx c0 Q a w
  | _, _, _ => False
theorem Goes.weaken {Q : D → List D → Prop} {tab : Nat → List CT} {env more : List D} {L pre : List (List D → Prop)} {k : SS → VC} {a : Act} {w : World} (h : Goes P c0 tab Q (env ++ more) (pre ++ L) k a w) : Goes P c0 tab Q env L k a w := by
  obtain ⟨m2, p2, s, h1, h2, h3⟩ := h
  exact ⟨more ++ m2, p2 ++ pre, s, by simpa [List.append_assoc] using h1, by simpa [List.append_assoc] using h2, by simpa [List.append_assoc] using h3⟩
theorem Post.weaken {Q : D → List D → Prop} {env more : List D} {L pre : List (List D → Prop)} {ex : List (Nat × (SS → VC))} {k : SS → VC} {e : Exit} {a : Act} {w : World} (h : Post P fx c0 Q (env ++ more) (pre ++ L) ex k e a w) : Post P fx c0 Q env L ex k e a w := by
  cases e with
  | normal => exact Goes.weaken h
  | exit id => obtain ⟨k', h1, h2⟩ := h; exact ⟨k', h1, h2.weaken⟩
  | ret => exact h
  | _ => exact h
theorem sx_sound (hcx : tbOk P fx.cx.tb fx.cx.tb = true) (hnt : c0.nt = fx.cx.nt) (hm : P.follows .mixedOrders = true) (Q : D → List D → Prop) : ∀ (cd : Code) (ss : SS) (ex : List (Nat × (SS → VC))) (k : SS → VC) (env : List D) (L : List (List D → Prop)) (a : Act) (w : World),
    Good c0 fx.cx.tb.tab env ss a w → L.length = ss.lv → (sx fx cd ss ex k).den P fx.cx.tb.tab env Q L → cd.wp P (Post P fx c0 Q env L ex k) a w := by
  intro cd
  induction cd with
  | skip =>
    intro ss ex k env L a w hG hL h
    exact wp_skip ⟨[], [], ss, by simpa using hG, by simpa using hL, by simpa [sx] using h⟩
  | region id ops draw =>
    intro ss ex k env L a w hG hL h
    simp only [sx] at h
    split at h
    · rename_i es s hrun
      generalize hC : ((!draw || drawOk ops es ss) && (isRet es || ss.σ.all fun x => stBel ss.Γ.length (ss.σ.get x.1)) && effsBel ss.Γ.length es && oneRq es) = C at h
      cases C with
      | false => exact h.elim
      | true =>
        simp only [cond_true] at h
        simp only [Bool.and_eq_true] at hC
        obtain ⟨⟨⟨hdr, hbel⟩, heb⟩, hone⟩ := hC
        obtain ⟨hE, hl, bm, tm, hS⟩ := hG
        obtain ⟨ds, q1, q2, q3, q4⟩ := rqs_den es (k s) env ss.Γ hE hl heb (fun e he => Nat.le_of_ble_eq_true (List.all_eq_true.1 hone e he)) h
        have htys := regRun_tys hrun
        rw [← htys] at q1 q2
        obtain ⟨_, _, _, hlv⟩ := regRun_Γ hrun
        have hS' : Sim { c0 with env := env ++ ds } (below ss.nt) ss.σ.get bm tm a w := by
          simp only [Bool.or_eq_true] at hbel
          rcases hbel with hr | hb
          · have : ds = [] := by
              have hz : (es.flatMap fun e => rqTys e.rq) = [] := by
                clear q1 q2 q3 q4 h htys hrun hdr heb hone
                induction es with
                | nil => rfl
                | cons e r ih =>
                  simp only [isRet, Bool.and_eq_true] at hr
                  have h1 : e.rq = [] := by
                    have := hr.1
                    split at this
                    · assumption
                    · simp at this
                  simp [h1, rqTys, ih hr.2]
              rw [htys, hz, List.append_nil] at q2
              have := q2
              simp only [List.length_append] at this
              exact List.eq_nil_of_length_eq_zero (by omega)
            subst this
            rw [List.append_nil]; exact hS
          · exact Sim.envTo (c := { c0 with env := env }) (Agr.of (by rw [hl]; exact Nat.le_refl _)) (all_bel hb) hS
        have hq := q3 []
        rw [List.append_nil] at hq
        have hgo : ∀ bm' tm' a' w', Sim { c0 with env := env ++ ds } (below s.nt) s.σ.get bm' tm' a' w' → Post P fx c0 Q env L ex k .normal a' w' := fun bm' tm' a' w' hS2 =>
          ⟨ds, [], s, ⟨q1, q2, bm', tm', hS2⟩, by rw [List.nil_append, hL, hlv], by simpa using q4⟩
        cases draw with
        | false => exact region_seq (c := { c0 with env := env ++ ds }) hcx hnt hrun q1 hq hgo hS'
        | true => exact region_draw (c := { c0 with env := env ++ ds }) hcx hnt hm hrun (by simpa using hdr) q1 hq hgo hS'
    · exact h.elim
  | seq x y ihx ihy =>
    intro ss ex k env L a w hG hL h
    simp only [sx] at h
    refine wp_seq (wp_mono (ihx ss ex _ env L a w hG hL h) fun e a' w' hp => ?_)
    cases e with
    | normal =>
      obtain ⟨more, pre, s, g1, g2, g3⟩ := hp
      exact wp_mono (ihy s ex k (env ++ more) (pre ++ L) a' w' g1 g2 g3) fun e a w hp => hp.weaken
    | _ => exact hp
  | cond x y z ihy ihz =>
    intro ss ex k env L a w hG hL h
    simp only [sx] at h
    split at h
    · rename_i kk e hx
      generalize hC : isC .bool (e.inf fx.cx.tb.tab ss.Γ) = C at h
      cases C with
      | false => exact h.elim
      | true =>
        simp only [cond_true] at h
        obtain ⟨hE, hl, bm, tm, hS⟩ := hG
        obtain ⟨b, hb, hv⟩ := eval_bool hE (isC_some hC) ((val_rel hS hx).1 (gsH_nil _))
        obtain ⟨h1, h2⟩ := h
        rw [hb] at h1 h2
        refine wp_cond hv ?_
        cases b with
        | true => exact ihy ss ex k env L a w ⟨hE, hl, bm, tm, hS⟩ hL (h1 rfl)
        | false => exact ihz ss ex k env L a w ⟨hE, hl, bm, tm, hS⟩ hL (h2 rfl)
    · exact h.elim
  | block id b ih =>
    intro ss ex k env L a w hG hL h
    simp only [sx] at h
    refine wp_block (wp_mono (ih ss _ k env L a w hG hL h) fun e a' w' hp => ?_)
    cases e with
    | normal => exact hp
    | exit id' =>
      obtain ⟨k', h1, h2⟩ := hp
      simp only [lookupE] at h1
      simp only [Exit.inBlock]
      by_cases e : id' = id
      · rw [if_pos e]
        subst e
        have : Nat.beq id' id' = true := by simp
        rw [this] at h1
        simp only [cond_true, Option.some.injEq] at h1
        subst h1; exact h2
      · rw [if_neg e]
        have : Nat.beq id id' = false := by
          cases hb : Nat.beq id id' with
          | false => rfl
          | true => exact absurd (Nat.eq_of_beq_eq_true hb).symm e
        rw [this] at h1
        exact ⟨k', h1, h2⟩
    | ret => exact hp
    | _ => exact hp
  | exit id =>
    intro ss ex k env L a w hG hL h
    simp only [sx] at h
    refine wp_exit ?_
    split at h
    · rename_i k' hk
      exact ⟨k', hk, [], [], ss, by simpa using hG, by simpa using hL, by simpa using h⟩
    · exact h.elim
  | loop b ih =>
    intro ss ex k env L a w hG hL h
    simp only [sx] at h
    generalize mkHead fx.cx.tb.tab b ss = H at h
    split at h
    · rename_i es hback
      generalize hC : (Nat.beq H.hd.lv (ss.lv + 1) && decide (H.hd.Γ = ss.Γ ++ H.tys) && Nat.beq H.slots.length H.tys.length) = C at h
      cases C with
      | false => exact h.elim
      | true =>
        simp only [cond_true] at h
        simp only [Bool.and_eq_true, decide_eq_true_eq] at hC
        obtain ⟨⟨hlv, hΓ⟩, hst⟩ := hC
        replace hlv := Nat.eq_of_beq_eq_true hlv
        obtain ⟨hE, hl, bm, tm, hS⟩ := hG
        obtain ⟨I, μ, h1, h2⟩ := h
        -- the round's beginning, with the carried values xs
        have hhead : ∀ xs, HasTys fx.cx.tb.tab H.tys xs → EnvTy fx.cx.tb.tab H.hd.Γ (env ++ xs) ∧ (env ++ xs).length = H.hd.Γ.length := fun xs hx => by
          rw [hΓ]
          exact ⟨hE.append hl hx, by simp [hl, hasTys_length hx]⟩
        obtain ⟨b1, b2, b3, b4, b5, tm', b6⟩ := back_sound (c := c0) (env0 := env) (env' := env) hback hl ⟨[], by simp⟩ hE hS
        refine wp_loop_ghost (fun m a w => ∃ xs, μ xs = m ∧ HasTys fx.cx.tb.tab H.tys xs ∧ FitsL xs ∧ I xs ∧ ∃ bm tm, Sim { c0 with env := env ++ xs } (below H.hd.nt) H.hd.σ.get bm tm a w) (μ (es.map (·.den env))) ⟨_, rfl, b1, b2, h1, bm, tm', b6⟩ ?_
        rintro m a w ⟨xs, rfl, x1, x2, x3, bm, tm, x4⟩
        obtain ⟨g1, g2⟩ := hhead xs x1
        refine wp_mono (ih H.hd ex _ (env ++ xs) ((fun ys => I ys ∧ μ ys < μ xs) :: L) a w ⟨g1, g2, bm, tm, x4⟩ (by simp [hL, hlv]) (h2 xs x1 x2 x3)) fun e a' w' hp => ?_
        have hw : ∀ {e a w}, Post P fx c0 Q (env ++ xs) ((fun ys => I ys ∧ μ ys < μ xs) :: L) ex (againVC fx.cx.tb.tab ss.Γ.length ss.nt ss.lv H) e a w → e ≠ .normal → Post P fx c0 Q env L ex k e a w := fun {e a w} hp hne => by
          have : Post P fx c0 Q env L ex (againVC fx.cx.tb.tab ss.Γ.length ss.nt ss.lv H) e a w := Post.weaken (more := xs) (pre := [fun ys => I ys ∧ μ ys < μ xs]) hp
          cases e with
          | normal => exact absurd rfl hne
          | exit id => exact this
          | ret => exact this
          | _ => exact this
        cases e with
        | normal =>
          obtain ⟨more, pre, s, q1, q2, q3⟩ := hp
          simp only [againVC] at q3
          split at q3
          · rename_i es' hback'
            cases hlt : Nat.blt ss.lv s.lv with
            | false => rw [hlt] at q3; exact q3.elim
            | true =>
              rw [hlt] at q3
              simp only [cond_true] at q3
              obtain ⟨q11, q12, bm2, tm2, q13⟩ := q1
              obtain ⟨c1, c2, c3, c4, c5, tm3, c6⟩ := back_sound (c := c0) (env0 := env) (env' := env ++ xs ++ more) hback' hl ⟨xs ++ more, by simp⟩ q11 q13
              have hidx : (pre ++ (fun ys => I ys ∧ μ ys < μ xs) :: L)[s.lv - ss.lv - 1]? = some (fun ys => I ys ∧ μ ys < μ xs) := by
                have hpl : s.lv - ss.lv - 1 = pre.length := by
                  simp only [List.length_append, List.length_cons] at q2
                  omega
                rw [hpl]; simp
              simp only [VC.den, hidx] at q3
              exact ⟨_, q3.2, _, rfl, c1, c2, q3.1, bm2, tm3, c6⟩
          · exact q3.elim
        | exit id => exact hw hp (by simp)
        | goto l => exact hp.elim
        | ret => exact hw hp (by simp)
        | panic ch => exact hp.elim
        | outgrown => exact hp.elim
    · exact h.elim
  | ret =>
    intro ss ex k env L a w hG hL h
    simp only [sx] at h
    exact wp_ret ⟨env, ss, L, hG, h⟩
  | rangeFunc f ps as b ih1 ih2 => intro ss ex k env L a w hG hL h; exact h.elim
  | scope b ih => intro ss ex k env L a w hG hL h; exact h.elim
  | label l => intro ss ex k env L a w hG hL h; exact h.elim
  | goto l => intro ss ex k env L a w hG hL h; exact h.elim
  | refuse s => intro ss ex k env L a w hG hL h; exact h.elim
end
end Go.Proofs.YtgaeigomhhbkfaaGreat
