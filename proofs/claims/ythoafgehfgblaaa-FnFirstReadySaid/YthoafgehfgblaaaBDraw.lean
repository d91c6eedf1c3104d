/- What the reference draws: each draw ends, and what its answer is like. -/
import Derived.Test.YthoafgehfgblaaaBFace
import Derived.Test.YthoafgehfgblaaaBNew
import Derived.Test.YthoafgehfgblaaaAEx
namespace Go.Proofs.Ythoafgehfgblaaa
open Go.RowKit Go
set_option linter.unusedVariables false
set_option linter.unusedSimpArgs false
set_option maxRecDepth 100000
set_option linter.unusedSectionVars false
variable [GC]
def curTy : List CT := [.sl 5, .int .i64, .int .i64]
theorem tab_u8 : tbl.tab 5 = [.int .u8] := by kernel_rfl
def Cur (cs : List D) : Prop := ∃ rows i h, cs = [.sl rows, .int .i64 i, .int .i64 h] ∧ RowsTy tbl.tab [.int .u8] rows ∧ 0 ≤ i
theorem Cur.ty {cs : List D} (h : Cur cs) : RowTy tbl.tab curTy cs := by
  obtain ⟨rows, i, h, rfl, h1, _⟩ := h
  refine ⟨?_, rfl, rfl, trivial⟩
  show RowsTy _ (tbl.tab _) _
  rw [tab_u8]; exact h1
/-- Draws: for each cursor there is an answer of which T holds. -/
def Dr (f : FuncId) (xs : List D) (T : D → Prop) : Prop := ∀ cs, Cur cs → ∃ r cs', T r ∧ Cur cs' ∧ Fun Try.prog f (some cs) xs r cs'
theorem Dr.of {f : FuncId} {V : VC} {Γ : List VT} {xs : List D} {T : D → Prop} (hV : vcOf Try.prog tbl rbt f (some curTy) = V) (hok : V.ok = true) (hΓ : tyOf Try.prog tbl f (some curTy) = Γ)
    (hty : ∀ cs, RowTy tbl.tab curTy cs → HasTys tbl.tab Γ (xs ++ cs)) (r0 : D) (hT : T r0)
    (hden : ∀ rows i h, FitsL xs → (rows.length : Int) ≤ 9223372036854775807 → RowsTy tbl.tab [.int .u8] rows → 0 ≤ i → V.den Try.prog tbl.tab (xs ++ [.sl rows, .int .i64 i, .int .i64 h]) (fun d bs => T d ∧ Cur bs) []) : Dr f xs T := by
  intro cs hc
  have hc' := hc
  obtain ⟨rows, i, h, rfl, h1, h2⟩ := hc
  obtain ⟨⟨r, cs'⟩, ⟨q1, q2⟩, q3⟩ := Fun.ex (T := fun d bs => T d ∧ Cur bs) (r0 := (r0, [.sl rows, .int .i64 i, .int .i64 h])) hV hok hΓ tbl_ok mo ⟨hT, hc'⟩ (bc := some [.sl rows, .int .i64 i, .int .i64 h]) (ds := xs) rfl (hty _ hc'.ty) (fun h => by cases h)
    (fun f1 f2 => hden rows i h f1 (by simp [FitsL, Fits, maxLen] at f2; omega) h1 h2)
  exact ⟨r, cs', q1, q2, q3⟩
/-- Draws whose answers have rights. -/
def DrR (f : FuncId) (xs : List D) (T : D → Prop) (rt : List (Nat × Nat)) : Prop := ∀ cs, Cur cs → ∃ r cs', T r ∧ Cur cs' ∧ FunR Try.prog f (some cs) xs r cs' rt
theorem Dr.ofR {f : FuncId} {xs : List D} {T : D → Prop} {rt : List (Nat × Nat)} (h : DrR f xs T rt) : Dr f xs T := fun cs hc => by
  obtain ⟨r, cs', h1, h2, h3⟩ := h cs hc
  exact ⟨r, cs', h1, h2, .ofR h3⟩
theorem DrR.of {f : FuncId} {V : VC} {Γ : List VT} {xs : List D} {T : D → Prop} {rt : List (Nat × Nat)} (hV : vcOf Try.prog tbl rbt f (some curTy) = V) (hrt : rbt.get f = rt) (hok : V.ok = true) (hΓ : tyOf Try.prog tbl f (some curTy) = Γ)
    (hty : ∀ cs, RowTy tbl.tab curTy cs → HasTys tbl.tab Γ (xs ++ cs)) (r0 : D) (hT : T r0)
    (hden : ∀ rows i h, FitsL xs → (rows.length : Int) ≤ 9223372036854775807 → RowsTy tbl.tab [.int .u8] rows → 0 ≤ i → V.den Try.prog tbl.tab (xs ++ [.sl rows, .int .i64 i, .int .i64 h]) (fun d bs => T d ∧ Cur bs) []) : DrR f xs T rt := by
  intro cs hc
  have hc' := hc
  obtain ⟨rows, i, h, rfl, h1, h2⟩ := hc
  obtain ⟨⟨r, cs'⟩, ⟨q1, q2⟩, q3⟩ := FunR.ex (T := fun d bs => T d ∧ Cur bs) (r0 := (r0, [.sl rows, .int .i64 i, .int .i64 h])) hV hok hΓ tbl_ok mo ⟨hT, hc'⟩ (bc := some [.sl rows, .int .i64 i, .int .i64 h]) (ds := xs) rfl (hty _ hc'.ty) (fun h => by cases h)
    (fun f1 f2 => hden rows i h f1 (by simp [FitsL, Fits, maxLen] at f2; omega) h1 h2)
  exact ⟨r, cs', q1, q2, hrt ▸ q3⟩
theorem den_drawR {env : List D} {Q : D → List D → Prop} {L : List (List D → Prop)} {f : FuncId} {bx args : List E} {vt : VT} {k : VC} {xs cs : List D} {T : D → Prop} {rt : List (Nat × Nat)}
    (hb : bx.map (·.den env) = cs) (ha : args.map (·.den env) = xs) (hc : Cur cs) (hD : DrR f xs T rt) (hT : ∀ r, T r → HasVT tbl.tab vt r)
    (hk : ∀ r rows i h, T r → RowsTy tbl.tab [.int .u8] rows → 0 ≤ i → k.den Try.prog tbl.tab (env ++ [r, .sl rows, .int .i64 i, .int .i64 h]) Q L) : (VC.rq (.callR f (some bx) args vt curTy rt) k).den Try.prog tbl.tab env Q L := by
  obtain ⟨r, cs', q1, q2, q3⟩ := hD cs hc
  have hty := q2.ty
  obtain ⟨rows, i, h, rfl, h1, h2⟩ := q2
  exact ⟨r, _, hT r q1, hty, by rw [← hb, ← ha] at q3; exact q3, hk r rows i h q1 h1 h2⟩
theorem den_draw {env : List D} {Q : D → List D → Prop} {L : List (List D → Prop)} {gs : Gd} {f : FuncId} {bx args : List E} {vt : VT} {k : VC} {xs cs : List D} {T : D → Prop}
    (hb : bx.map (·.den env) = cs) (ha : args.map (·.den env) = xs) (hc : Cur cs) (hD : Dr f xs T) (hT : ∀ r, T r → HasVT tbl.tab vt r)
    (hk : ∀ r rows i h, T r → RowsTy tbl.tab [.int .u8] rows → 0 ≤ i → k.den Try.prog tbl.tab (env ++ [r, .sl rows, .int .i64 i, .int .i64 h]) Q L) : (VC.rq (.call gs f (some bx) args vt curTy) k).den Try.prog tbl.tab env Q L := by
  obtain ⟨r, cs', q1, q2, q3⟩ := hD cs hc
  have hty := q2.ty
  obtain ⟨rows, i, h, rfl, h1, h2⟩ := q2
  exact ⟨r, _, hT r q1, hty, fun _ => by rw [← hb, ← ha] at q3; exact q3, hk r rows i h q1 h1 h2⟩
def isI (r : D) : Prop := ∃ x, r = .int .i64 x
theorem and255 (x : Int) : 0 ≤ arI .and .i64 x 255 ∧ arI .and .i64 x 255 ≤ 255 := by
  have h : ((BitVec.ofInt 64 x &&& BitVec.ofInt 64 255).toNat : Int) ≤ 255 := by
    rw [BitVec.toNat_and]
    have : (BitVec.ofInt 64 x).toNat &&& (BitVec.ofInt 64 255).toNat ≤ (BitVec.ofInt 64 255).toNat := Nat.and_le_right
    have e : (BitVec.ofInt 64 255).toNat = 255 := by decide
    omega
  show 0 ≤ IntKind.i64.wrap ((BitVec.ofInt 64 x &&& BitVec.ofInt 64 255).toNat : Int) ∧ IntKind.i64.wrap ((BitVec.ofInt 64 x &&& BitVec.ofInt 64 255).toNat : Int) ≤ 255
  rw [wrap_i64 (by omega) (by omega)]; omega
theorem d_l1Byte : Dr 114 [] (fun r => ∃ x, r = .int .i64 x ∧ 0 ≤ x ∧ x ≤ 255) := by
  refine Dr.of vc_spec_l1Byte_ok rfl ty_spec_l1Byte_ok (fun cs h => ?_) (.int .i64 0) ⟨0, rfl, by omega, by omega⟩ fun rows i h f1 hl hr hi => ?_
  · obtain ⟨rows, i, h, rfl, h1⟩ : ∃ a b c, cs = [a, b, c] ∧ RowTy tbl.tab curTy [a, b, c] := by
      match cs, h with | [a, b, c], h => exact ⟨a, b, c, rfl, h⟩
    exact ⟨h1.1, h1.2.1, h1.2.2.1, trivial⟩
  unfold vc_spec_l1Byte
  refine den_cond (fun _ => rfl) (den_cond (fun _ => rfl) (den_ite (fun h => ?_) (fun h => ?_)))
  · simp [E.den, cmpI, lenD] at h
    refine den_cond (fun _ => ?_) ?_
    · simp [E.den, lenD]; omega
    · refine ⟨⟨_, rfl, and255 _⟩, rows, _, _, rfl, hr, ?_⟩
      simp only [E.den, List.getD_cons_zero, List.getD_cons_succ, List.nil_append, D.toI_int]
      rw [ar_add (by omega) (by omega)]; omega
  · exact ⟨⟨_, rfl, and255 _⟩, rows, _, _, rfl, hr, hi⟩
theorem cur_tys {cs : List D} (h : RowTy tbl.tab curTy cs) : HasTys tbl.tab [.one (.c (.sl 5)), .one (.c (.int .i64)), .one (.c (.int .i64))] cs := by
  match cs, h with | [a, b, c], h => exact ⟨h.1, h.2.1, h.2.2.1, trivial⟩
def isB (r : D) : Prop := ∃ b, r = .bool b
def isBel (n : Int) (r : D) : Prop := ∃ x, r = .int .i64 x ∧ 0 ≤ x ∧ (0 < n → x < n)
def isV (r : D) : Prop := ∃ v : Ver, r = enc v
theorem isI.ty {r : D} (h : isI r) : HasVT tbl.tab (.one (.c (.int .i64))) r := by obtain ⟨x, rfl⟩ := h; rfl
theorem isB.ty {r : D} (h : isB r) : HasVT tbl.tab (.one (.c .bool)) r := by obtain ⟨x, rfl⟩ := h; trivial
theorem isBel.ty {n : Int} {r : D} (h : isBel n r) : HasVT tbl.tab (.one (.c (.int .i64))) r := by obtain ⟨x, rfl, _⟩ := h; rfl
theorem isV.ty {r : D} (h : isV r) : HasVT tbl.tab (.one (.agg [.int .i64, .int .i64])) r := by obtain ⟨v, rfl⟩ := h; exact ty_Ver v
theorem byte_ty {r : D} (h : ∃ x, r = .int .i64 x ∧ 0 ≤ x ∧ x ≤ 255) : HasVT tbl.tab (.one (.c (.int .i64))) r := by obtain ⟨x, rfl, _⟩ := h; rfl
theorem rem_in {x n : Int} (hx : 0 ≤ x) (hn : 0 < n) : 0 ≤ arI .rem .i64 x n ∧ arI .rem .i64 x n < n := ⟨Int.tmod_nonneg _ hx, Int.tmod_lt_of_pos _ hn⟩
theorem ar_mul {x y : Int} (h1 : -9223372036854775808 ≤ x * y) (h2 : x * y ≤ 9223372036854775807) : arI .mul .i64 x y = x * y := wrap_i64 h1 h2
theorem d_l1Below (n : Int) : Dr 87 [.int .i64 n] (isBel n) := by
  refine Dr.of vc_spec_l1Below_ok rfl ty_spec_l1Below_ok (fun cs h => by exact ⟨rfl, cur_tys h⟩) (.int .i64 0) ⟨0, rfl, by omega, fun h => h⟩ fun rows i sd f1 hl hr hi => ?_; (simp only [List.cons_append, List.nil_append]); unfold vc_spec_l1Below
  refine den_ite (fun h => ?_) (fun h => ?_)
  · simp [E.den, cmpI] at h
    exact ⟨⟨_, rfl, by omega, by omega⟩, _, _, _, rfl, hr, hi⟩
  simp [E.den, cmpI] at h
  refine den_ite (fun h2 => ?_) (fun h2 => ?_)
  · ((first | apply den_draw | apply den_drawR); (focus (simp only [VC.den, E.den, dEq, gsH_nil, and_true]; try exact rfl)); (focus (simp only [VC.den, E.den, dEq, gsH_nil, and_true]; try exact rfl)); (focus (exact ⟨_, _, _, rfl, by assumption, by assumption⟩)); (focus (first | exact d_l1Byte | exact Dr.ofR (d_l1Byte))); (focus (exact fun _ h => byte_ty h)); rintro _ rows i sd ⟨x, rfl, hx⟩ hr hi; (simp only [List.cons_append, List.nil_append]))
    refine den_cond (fun _ => ?_) ?_
    · simp [E.den, cmpI]; omega
    exact ⟨⟨_, rfl, (rem_in hx.1 h).1, fun _ => (rem_in hx.1 h).2⟩, _, _, _, rfl, hr, hi⟩
  · ((first | apply den_draw | apply den_drawR); (focus (simp only [VC.den, E.den, dEq, gsH_nil, and_true]; try exact rfl)); (focus (simp only [VC.den, E.den, dEq, gsH_nil, and_true]; try exact rfl)); (focus (exact ⟨_, _, _, rfl, by assumption, by assumption⟩)); (focus (first | exact d_l1Byte | exact Dr.ofR (d_l1Byte))); (focus (exact fun _ h => byte_ty h)); rintro _ rows i sd ⟨x, rfl, hx⟩ hr hi; (simp only [List.cons_append, List.nil_append]))
    ((first | apply den_draw | apply den_drawR); (focus (simp only [VC.den, E.den, dEq, gsH_nil, and_true]; try exact rfl)); (focus (simp only [VC.den, E.den, dEq, gsH_nil, and_true]; try exact rfl)); (focus (exact ⟨_, _, _, rfl, by assumption, by assumption⟩)); (focus (first | exact d_l1Byte | exact Dr.ofR (d_l1Byte))); (focus (exact fun _ h => byte_ty h)); rintro _ rows i sd ⟨y, rfl, hy⟩ hr hi; (simp only [List.cons_append, List.nil_append]))
    ((first | apply den_draw | apply den_drawR); (focus (simp only [VC.den, E.den, dEq, gsH_nil, and_true]; try exact rfl)); (focus (simp only [VC.den, E.den, dEq, gsH_nil, and_true]; try exact rfl)); (focus (exact ⟨_, _, _, rfl, by assumption, by assumption⟩)); (focus (first | exact d_l1Byte | exact Dr.ofR (d_l1Byte))); (focus (exact fun _ h => byte_ty h)); rintro _ rows i sd ⟨z, rfl, hz⟩ hr hi; (simp only [List.cons_append, List.nil_append]))
    refine den_cond (fun _ => ?_) ?_
    · simp [E.den, cmpI]; omega
    have e : arI .add .i64 (arI .add .i64 (arI .mul .i64 x 65536) (arI .mul .i64 y 256)) z = x * 65536 + y * 256 + z := by
      rw [ar_mul (x := x) (by omega) (by omega), ar_mul (x := y) (by omega) (by omega), ar_add (x := x * 65536) (y := y * 256) (by omega) (by omega), ar_add (by omega) (by omega)]
    have h0 := rem_in (x := arI .add .i64 (arI .add .i64 (arI .mul .i64 x 65536) (arI .mul .i64 y 256)) z) (n := n) (by rw [e]; omega) h
    exact ⟨⟨_, rfl, h0.1, fun _ => h0.2⟩, _, _, _, rfl, hr, hi⟩
theorem d_l1Once (n : Int) : Dr 64 [.int .i64 n] isB := by
  refine Dr.of vc_spec_l1Once_ok rfl ty_spec_l1Once_ok (fun cs h => by exact ⟨rfl, cur_tys h⟩) (.bool false) ⟨_, rfl⟩ fun rows i sd f1 hl hr hi => ?_; (simp only [List.cons_append, List.nil_append]); unfold vc_spec_l1Once
  ((first | apply den_draw | apply den_drawR); (focus (simp only [VC.den, E.den, dEq, gsH_nil, and_true]; try exact rfl)); (focus (simp only [VC.den, E.den, dEq, gsH_nil, and_true]; try exact rfl)); (focus (exact ⟨_, _, _, rfl, by assumption, by assumption⟩)); (focus (first | exact d_l1Below _ | exact Dr.ofR (d_l1Below _))); (focus (exact fun _ h => isBel.ty h)); rintro _ rows i sd ⟨x, rfl, hx⟩ hr hi; (simp only [List.cons_append, List.nil_append]))
  exact ⟨⟨_, rfl⟩, _, _, _, rfl, hr, hi⟩
theorem d_l2Face : Dr 138 [] (isBel 64) := by
  refine Dr.of vc_spec_l2Face_ok rfl ty_spec_l2Face_ok (fun cs h => by exact cur_tys h) (.int .i64 0) ⟨_, rfl, by omega, fun _ => by omega⟩ fun rows i sd f1 hl hr hi => ?_; (simp only [List.cons_append, List.nil_append]); unfold vc_spec_l2Face
  ((first | apply den_draw | apply den_drawR); (focus (simp only [VC.den, E.den, dEq, gsH_nil, and_true]; try exact rfl)); (focus (simp only [VC.den, E.den, dEq, gsH_nil, and_true]; try exact rfl)); (focus (exact ⟨_, _, _, rfl, by assumption, by assumption⟩)); (focus (first | exact d_l1Below _ | exact Dr.ofR (d_l1Below _))); (focus (exact fun _ h => isBel.ty h)); rintro _ rows i sd ⟨x, rfl, hx⟩ hr hi; (simp only [List.cons_append, List.nil_append]))
  exact ⟨⟨_, rfl, hx⟩, _, _, _, rfl, hr, hi⟩
def intS (l : List Int) : D := .sl (l.map fun n => [.int .i64 n])
theorem tab_int : tbl.tab 3 = [.int .i64] := by kernel_rfl
theorem intS_ty (l : List Int) : HasVT tbl.tab (.one (.c (.sl 3))) (intS l) := by
  show RowsTy _ (tbl.tab _) _
  rw [tab_int]
  exact RowsTy.of fun r hr => by obtain ⟨n, _, rfl⟩ := List.mem_map.1 hr; exact ⟨rfl, trivial⟩
theorem d_l1Int (l : List Int) (h0 : 0 < l.length) : Dr 116 [intS l] isI := by
  refine Dr.of vc_spec_l1Int_ok rfl ty_spec_l1Int_ok (fun cs h => by exact ⟨intS_ty l, cur_tys h⟩) (.int .i64 0) ⟨_, rfl⟩ fun rows i sd f1 hl hr hi => ?_; (simp only [List.cons_append, List.nil_append]); unfold vc_spec_l1Int
  have hn : (l.length : Int) ≤ 9223372036854775807 := by
    simp [FitsL, Fits, intS, maxLen] at f1; omega
  have hB : Dr 87 [.int .i64 (lenD (intS l))] (isBel l.length) := by
    have := d_l1Below l.length
    simpa [intS, lenD] using this
  ((first | apply den_draw | apply den_drawR); (focus (simp only [VC.den, E.den, dEq, gsH_nil, and_true]; try exact rfl)); (focus (simp only [VC.den, E.den, dEq, gsH_nil, and_true]; try exact rfl)); (focus (exact ⟨_, _, _, rfl, by assumption, by assumption⟩)); (focus (first | exact hB | exact Dr.ofR (hB))); (focus (exact fun _ h => isBel.ty h)); rintro _ rows i sd ⟨x, rfl, hx⟩ hr hi; (simp only [List.cons_append, List.nil_append]))
  refine den_cond (fun _ => ?_) ?_
  · simp [E.den, intS, lenD]; omega
  have hx2 := hx.2 (by omega)
  have e : l[x.toNat]? = some l[x.toNat] := List.getElem?_eq_getElem (by omega)
  refine ⟨⟨l[x.toNat], ?_⟩, _, _, _, rfl, hr, hi⟩
  simp [E.den, intS, e]
theorem d_l1Odd : Dr 121 [] isI := by
  refine Dr.of vc_spec_l1Odd_ok rfl ty_spec_l1Odd_ok (fun cs h => by exact cur_tys h) (.int .i64 0) ⟨_, rfl⟩ fun rows i sd f1 hl hr hi => ?_; (simp only [List.cons_append, List.nil_append]); unfold vc_spec_l1Odd
  ((first | apply den_draw | apply den_drawR); (focus (simp only [VC.den, E.den, dEq, gsH_nil, and_true]; try exact rfl)); (focus (simp only [VC.den, E.den, dEq, gsH_nil, and_true]; try exact rfl)); (focus (exact ⟨_, _, _, rfl, by assumption, by assumption⟩)); (focus (first | exact d_l1Int [-1, 0, 1, 2, 3, 4, 5, 6, 7, 63, 64, 99, 100, 999, 1000, 9223372036854775807, -9223372036854775808] (by decide) | exact Dr.ofR (d_l1Int [-1, 0, 1, 2, 3, 4, 5, 6, 7, 63, 64, 99, 100, 999, 1000, 9223372036854775807, -9223372036854775808] (by decide)))); (focus (exact fun _ h => isI.ty h)); rintro _ rows i sd ⟨x, rfl⟩ hr hi; (simp only [List.cons_append, List.nil_append]))
  exact ⟨⟨_, rfl⟩, _, _, _, rfl, hr, hi⟩
theorem d_l2Any : Dr 122 [] isI := by
  refine Dr.of vc_spec_l2Any_ok rfl ty_spec_l2Any_ok (fun cs h => by exact cur_tys h) (.int .i64 0) ⟨_, rfl⟩ fun rows i sd f1 hl hr hi => ?_; (simp only [List.cons_append, List.nil_append]); unfold vc_spec_l2Any
  ((first | apply den_draw | apply den_drawR); (focus (simp only [VC.den, E.den, dEq, gsH_nil, and_true]; try exact rfl)); (focus (simp only [VC.den, E.den, dEq, gsH_nil, and_true]; try exact rfl)); (focus (exact ⟨_, _, _, rfl, by assumption, by assumption⟩)); (focus (first | exact d_l1Once _ | exact Dr.ofR (d_l1Once _))); (focus (exact fun _ h => isB.ty h)); rintro _ rows i sd ⟨b, rfl⟩ hr hi; (simp only [List.cons_append, List.nil_append]))
  refine den_ite (fun h => ?_) (fun h => ?_)
  · ((first | apply den_draw | apply den_drawR); (focus (simp only [VC.den, E.den, dEq, gsH_nil, and_true]; try exact rfl)); (focus (simp only [VC.den, E.den, dEq, gsH_nil, and_true]; try exact rfl)); (focus (exact ⟨_, _, _, rfl, by assumption, by assumption⟩)); (focus (first | exact d_l1Int [-1, 64, 65, 1000, 9223372036854775807, -9223372036854775808] (by decide) | exact Dr.ofR (d_l1Int [-1, 64, 65, 1000, 9223372036854775807, -9223372036854775808] (by decide)))); (focus (exact fun _ h => isI.ty h)); rintro _ rows i sd ⟨x, rfl⟩ hr hi; (simp only [List.cons_append, List.nil_append]))
    exact ⟨⟨_, rfl⟩, _, _, _, rfl, hr, hi⟩
  · ((first | apply den_draw | apply den_drawR); (focus (simp only [VC.den, E.den, dEq, gsH_nil, and_true]; try exact rfl)); (focus (simp only [VC.den, E.den, dEq, gsH_nil, and_true]; try exact rfl)); (focus (exact ⟨_, _, _, rfl, by assumption, by assumption⟩)); (focus (first | exact d_l2Face | exact Dr.ofR (d_l2Face))); (focus (exact fun _ h => isBel.ty h)); rintro _ rows i sd ⟨x, rfl, hx⟩ hr hi; (simp only [List.cons_append, List.nil_append]))
    exact ⟨⟨_, rfl⟩, _, _, _, rfl, hr, hi⟩
theorem d_l5Draw : Dr 120 [] isV := by
  refine Dr.of vc_spec_l5Draw_ok rfl ty_spec_l5Draw_ok (fun cs h => by exact cur_tys h) (enc (default : Ver)) ⟨_, rfl⟩ fun rows i sd f1 hl hr hi => ?_; (simp only [List.cons_append, List.nil_append]); unfold vc_spec_l5Draw
  ((first | apply den_draw | apply den_drawR); (focus (simp only [VC.den, E.den, dEq, gsH_nil, and_true]; try exact rfl)); (focus (simp only [VC.den, E.den, dEq, gsH_nil, and_true]; try exact rfl)); (focus (exact ⟨_, _, _, rfl, by assumption, by assumption⟩)); (focus (first | exact d_l1Below _ | exact Dr.ofR (d_l1Below _))); (focus (exact fun _ h => isBel.ty h)); rintro _ rows i sd ⟨x, rfl, hx⟩ hr hi; (simp only [List.cons_append, List.nil_append]))
  ((first | apply den_draw | apply den_drawR); (focus (simp only [VC.den, E.den, dEq, gsH_nil, and_true]; try exact rfl)); (focus (simp only [VC.den, E.den, dEq, gsH_nil, and_true]; try exact rfl)); (focus (exact ⟨_, _, _, rfl, by assumption, by assumption⟩)); (focus (first | exact d_l1Below _ | exact Dr.ofR (d_l1Below _))); (focus (exact fun _ h => isBel.ty h)); rintro _ rows i sd ⟨y, rfl, hy⟩ hr hi; (simp only [List.cons_append, List.nil_append]))
  exact ⟨⟨⟨_, _⟩, rfl⟩, _, _, _, rfl, hr, hi⟩
theorem d_l5Any : Dr 92 [] isV := by
  refine Dr.of vc_spec_l5Any_ok rfl ty_spec_l5Any_ok (fun cs h => by exact cur_tys h) (enc (default : Ver)) ⟨_, rfl⟩ fun rows i sd f1 hl hr hi => ?_; (simp only [List.cons_append, List.nil_append]); unfold vc_spec_l5Any
  ((first | apply den_draw | apply den_drawR); (focus (simp only [VC.den, E.den, dEq, gsH_nil, and_true]; try exact rfl)); (focus (simp only [VC.den, E.den, dEq, gsH_nil, and_true]; try exact rfl)); (focus (exact ⟨_, _, _, rfl, by assumption, by assumption⟩)); (focus (first | exact d_l5Draw | exact Dr.ofR (d_l5Draw))); (focus (exact fun _ h => isV.ty h)); rintro _ rows i sd ⟨v, rfl⟩ hr hi; (simp only [List.cons_append, List.nil_append]))
  ((first | apply den_draw | apply den_drawR); (focus (simp only [VC.den, E.den, dEq, gsH_nil, and_true]; try exact rfl)); (focus (simp only [VC.den, E.den, dEq, gsH_nil, and_true]; try exact rfl)); (focus (exact ⟨_, _, _, rfl, by assumption, by assumption⟩)); (focus (first | exact d_l1Once _ | exact Dr.ofR (d_l1Once _))); (focus (exact fun _ h => isB.ty h)); rintro _ rows i sd ⟨b, rfl⟩ hr hi; (simp only [List.cons_append, List.nil_append]))
  refine den_ite (fun h => ?_) (fun h => ?_)
  · ((first | apply den_draw | apply den_drawR); (focus (simp only [VC.den, E.den, dEq, gsH_nil, and_true]; try exact rfl)); (focus (simp only [VC.den, E.den, dEq, gsH_nil, and_true]; try exact rfl)); (focus (exact ⟨_, _, _, rfl, by assumption, by assumption⟩)); (focus (first | exact d_l1Odd | exact Dr.ofR (d_l1Odd))); (focus (exact fun _ h => isI.ty h)); rintro _ rows i sd ⟨x, rfl⟩ hr hi; (simp only [List.cons_append, List.nil_append]))
    ((first | apply den_draw | apply den_drawR); (focus (simp only [VC.den, E.den, dEq, gsH_nil, and_true]; try exact rfl)); (focus (simp only [VC.den, E.den, dEq, gsH_nil, and_true]; try exact rfl)); (focus (exact ⟨_, _, _, rfl, by assumption, by assumption⟩)); (focus (first | exact d_l1Once _ | exact Dr.ofR (d_l1Once _))); (focus (exact fun _ h => isB.ty h)); rintro _ rows i sd ⟨b', rfl⟩ hr hi; (simp only [List.cons_append, List.nil_append]))
    refine den_ite (fun h => ?_) (fun h => ?_)
    · ((first | apply den_draw | apply den_drawR); (focus (simp only [VC.den, E.den, dEq, gsH_nil, and_true]; try exact rfl)); (focus (simp only [VC.den, E.den, dEq, gsH_nil, and_true]; try exact rfl)); (focus (exact ⟨_, _, _, rfl, by assumption, by assumption⟩)); (focus (first | exact d_l1Odd | exact Dr.ofR (d_l1Odd))); (focus (exact fun _ h => isI.ty h)); rintro _ rows i sd ⟨y, rfl⟩ hr hi; (simp only [List.cons_append, List.nil_append]))
      exact ⟨⟨⟨y, x⟩, rfl⟩, _, _, _, rfl, hr, hi⟩
    · exact ⟨⟨⟨v.maj, x⟩, rfl⟩, _, _, _, rfl, hr, hi⟩
  · ((first | apply den_draw | apply den_drawR); (focus (simp only [VC.den, E.den, dEq, gsH_nil, and_true]; try exact rfl)); (focus (simp only [VC.den, E.den, dEq, gsH_nil, and_true]; try exact rfl)); (focus (exact ⟨_, _, _, rfl, by assumption, by assumption⟩)); (focus (first | exact d_l1Once _ | exact Dr.ofR (d_l1Once _))); (focus (exact fun _ h => isB.ty h)); rintro _ rows i sd ⟨b', rfl⟩ hr hi; (simp only [List.cons_append, List.nil_append]))
    refine den_ite (fun h => ?_) (fun h => ?_)
    · ((first | apply den_draw | apply den_drawR); (focus (simp only [VC.den, E.den, dEq, gsH_nil, and_true]; try exact rfl)); (focus (simp only [VC.den, E.den, dEq, gsH_nil, and_true]; try exact rfl)); (focus (exact ⟨_, _, _, rfl, by assumption, by assumption⟩)); (focus (first | exact d_l1Odd | exact Dr.ofR (d_l1Odd))); (focus (exact fun _ h => isI.ty h)); rintro _ rows i sd ⟨y, rfl⟩ hr hi; (simp only [List.cons_append, List.nil_append]))
      exact ⟨⟨⟨y, v.min⟩, rfl⟩, _, _, _, rfl, hr, hi⟩
    · exact ⟨⟨v, rfl⟩, _, _, _, rfl, hr, hi⟩
/-- Draws from bytes. -/
theorem rows_u8 {rows : List (List D)} (h : RowsTy tbl.tab [.int .u8] rows) : ∀ r ∈ rows, ∃ n, r = [.int .u8 n] := by
  intro r hr
  have := h.mem r hr
  match r, this with
  | [d], this => obtain ⟨n, rfl⟩ := hasTy_int this.1; exact ⟨n, rfl⟩
theorem den_newc {env : List D} {Q : D → List D → Prop} {L : List (List D → Prop)} {args : List E} {k : VC} {rows : List (List D)} (ha : args.map (·.den env) = [.sl rows]) (hr : RowsTy tbl.tab [.int .u8] rows)
    (hk : ∀ sd, k.den Try.prog tbl.tab (env ++ [.sl rows, .int .i64 0, .int .i64 sd]) Q L) : (VC.rq (.new 49 args curTy) k).den Try.prog tbl.tab env Q L :=
  ⟨_, Cur.ty ⟨rows, 0, _, rfl, hr, Int.le_refl _⟩, by rw [ha]; exact c_spec_l1New rows (rows_u8 hr), hk _⟩
end Go.Proofs.Ythoafgehfgblaaa
