/- What the reference draws where it draws a registry: it is one. -/
import Derived.Test.YthoafgehfgblaaaBDrawEnt
import Derived.Test.YthoafgehfgblaaaBWireLaw
import Derived.Test.YthoafgehfgblaaaBSpecN
import Derived.Test.YthoafgehfgblaaaBMark
namespace Go.Proofs.Ythoafgehfgblaaa
open Go.RowKit Go
set_option linter.unusedVariables false
set_option linter.unusedSimpArgs false
set_option maxRecDepth 100000
set_option linter.unusedSectionVars false
variable [GC]
def isSM (rows0 : List (List D)) (r : D) : Prop := ∃ s : ByteArray, r = .str s ∧ [.str s] ∈ rows0
theorem isSM.ty {rows0 : List (List D)} {r : D} (h : isSM rows0 r) : HasVT tbl.tab (.one (.c .str)) r := by obtain ⟨x, rfl, _⟩ := h; trivial
theorem d_l1StrM (rows0 : List (List D)) (s0 : ByteArray) (h0 : 0 < rows0.length) (hs0 : [.str s0] ∈ rows0) (hs : rows0.all strRow = true) : Dr 117 [.sl rows0] (isSM rows0) := by
  have hs' : ∀ r ∈ rows0, ∃ s, r = [.str s] := fun r hr => strRow_ok (List.all_eq_true.1 hs r hr)
  have hty : HasVT tbl.tab (.one (.c (.sl 9))) (.sl rows0) := by
    show RowsTy _ (tbl.tab _) _
    rw [tab_str]
    exact RowsTy.of fun r hr => by obtain ⟨s, rfl⟩ := hs' r hr; exact ⟨trivial, trivial⟩
  refine Dr.of vc_spec_l1Str_ok rfl ty_spec_l1Str_ok (fun cs h => by exact ⟨hty, cur_tys h⟩) (.str s0) ⟨_, rfl, hs0⟩ fun rows i sd f1 hl hr hi => ?_; (simp only [List.cons_append, List.nil_append]); unfold vc_spec_l1Str
  have hn : (rows0.length : Int) ≤ 9223372036854775807 := by
    simp [FitsL, Fits, maxLen] at f1; omega
  ((first | apply den_draw | apply den_drawR); (focus (simp only [VC.den, E.den, dEq, gsH_nil, and_true, lenD]; try exact rfl)); (focus (simp only [VC.den, E.den, dEq, gsH_nil, and_true, lenD]; try exact rfl)); (focus (exact ⟨_, _, _, rfl, by assumption, by assumption⟩)); (focus (first | exact d_l1Below rows0.length | exact Dr.ofR (d_l1Below rows0.length))); (focus (exact fun _ h => isBel.ty h)); rintro _ rows i sd ⟨x, rfl, hx⟩ hr hi; (simp only [List.cons_append, List.nil_append]))
  refine den_cond (fun _ => ?_) ?_
  · simp [E.den, lenD]; omega
  have hx2 := hx.2 (by omega)
  have e : rows0[x.toNat]? = some rows0[x.toNat] := List.getElem?_eq_getElem (by omega)
  have hm := List.getElem_mem (show x.toNat < rows0.length by omega)
  obtain ⟨s, hs1⟩ := hs' _ hm
  rw [hs1] at hm
  refine ⟨⟨s, ?_, hm⟩, _, _, _, rfl, hr, hi⟩
  simp [E.den, e, hs1]
def isRec (r : D) : Prop := ∃ l : List ByteArray, r = encS l ∧ l.length ≤ 5 ∧ recOk l = true
theorem isRec.ty {r : D} (h : isRec r) : HasVT tbl.tab (.one (.c (.sl 9))) r := by obtain ⟨l, rfl, _⟩ := h; exact ty_strS l
def robotT : ByteArray := ⟨#[114, 111, 98, 111, 116]⟩
theorem d_l6RecipeM : DrR 115 [] isRec [(0, 1)] := by
  refine DrR.of vc_spec_l6Recipe_ok rt_spec_l6Recipe_ok rfl ty_spec_l6Recipe_ok (fun cs h => by exact cur_tys h) (encS [robotT]) ⟨_, rfl, by simp, by kernel_rfl⟩ fun rows i sd f1 hl hr hi => ?_; (simp only [List.cons_append, List.nil_append]); unfold vc_spec_l6Recipe
  refine den_loop R6St R6St.lay (fun s => s.k ≤ 4 ∧ RowsTy tbl.tab [.int .u8] s.rows ∧ 0 ≤ s.i) (fun s => 4 - s.k) ⟨0, rows, i, sd⟩ (fun s s' h => by simp [R6St.lay] at h; omega) rfl ⟨by simp, hr, hi⟩ ?_
  rintro ⟨k, rows, i, sd⟩ ⟨hk, hr, hi⟩ -
  simp only at hk hr hi
  simp only [R6St.lay, List.cons_append, List.nil_append]
  refine den_ite (fun h => ?_) (fun h => ?_)
  · simp [E.den, cmpI] at h
    ((first | apply den_draw | apply den_drawR); (focus (simp only [VC.den, E.den, dEq, gsH_nil, and_true]; try exact rfl)); (focus (simp only [VC.den, E.den, dEq, gsH_nil, and_true]; try exact rfl)); (focus (exact ⟨_, _, _, rfl, by assumption, by assumption⟩)); (focus (first | exact d_l4Recipe | exact Dr.ofR (d_l4Recipe))); (focus (exact fun _ h => isTx.ty h)); rintro _ rows i sd ⟨l, rfl, hl'⟩ hr hi; (simp only [List.cons_append, List.nil_append]))
    ((first | refine den_call ?_ (c_spec_RecipeFace l) (⟨rfl, trivial, trivial⟩) ?_ | refine den_callR ?_ (c_spec_RecipeFace l) (⟨rfl, trivial, trivial⟩) ?_ | refine den_call ?_ (.ofR (c_spec_RecipeFace l)) (⟨rfl, trivial, trivial⟩) ?_); (focus (simp only [VC.den, E.den, dEq, gsH_nil, and_true]; try exact rfl)); (simp only [List.cons_append, List.nil_append]))
    refine den_ite (fun h2 => ?_) (fun h2 => ?_)
    · simp only [E.den, dEq, iEq, sEq] at h2
      have h3 : recOk l = true := by simp at h2; exact h2.1
      exact ⟨⟨l, rfl, hl', h3⟩, _, _, _, rfl, hr, hi⟩
    refine ⟨⟨k + 1, rows, i, sd⟩, ?_, ⟨by simp only; omega, hr, hi⟩, by simp only; omega⟩
    simp [E.den, R6St.lay]
    rw [ar_add (by omega) (by omega)]
  · ((first | apply den_draw | apply den_drawR); (focus (simp only [VC.den, E.den, dEq, gsH_nil, and_true]; try exact rfl)); (focus (simp only [VC.den, E.den, dEq, gsH_nil, and_true]; try exact rfl)); (focus (exact ⟨_, _, _, rfl, by assumption, by assumption⟩)); (focus (first | exact d_l1StrM _ robotT (by decide) (List.mem_cons_self ..) rfl | exact Dr.ofR (d_l1StrM _ robotT (by decide) (List.mem_cons_self ..) rfl))); (focus (exact fun _ h => isSM.ty h)); rintro _ rows i sd ⟨s, rfl, hs⟩ hr hi; (simp only [List.cons_append, List.nil_append]))
    refine ⟨⟨[s], rfl, by simp, ?_⟩, _, _, _, rfl, hr, hi⟩
    simp at hs
    rcases hs with rfl | rfl | rfl <;> kernel_rfl
def isOk (nm : ByteArray) (r : D) : Prop := ∃ e : Entry, r = enc e ∧ (e.recipe.length ≤ 5 ∧ e.needs.length ≤ 3) ∧ (nameB nm = true → entryB e = true ∧ e.name = nm)
theorem isOk.ty {nm : ByteArray} {r : D} (h : isOk nm r) : HasVT tbl.tab (.one (.agg [.str, .sl 9, .int .i64, .int .i64, .sl 42])) r := by obtain ⟨n, rfl, _⟩ := h; exact ty_Entry n
theorem ok0 (nm : ByteArray) : isOk nm (enc (⟨nm, [robotT], ⟨1, 0⟩, []⟩ : Entry)) := ⟨_, rfl, by simp, fun h => ⟨by unfold entryB; simp only [show recOk [robotT] = true by kernel_rfl, h]; rfl, rfl⟩⟩
theorem d_l6DrawM (nm : ByteArray) : DrR 88 [.str nm] (isOk nm) [(1, 1), (4, 4)] := by
  refine DrR.of vc_spec_l6Draw_ok rt_spec_l6Draw_ok rfl ty_spec_l6Draw_ok (fun cs h => by exact ⟨trivial, cur_tys h⟩) (enc (⟨nm, [robotT], ⟨1, 0⟩, []⟩ : Entry)) (ok0 nm) fun rows i sd f1 hl hr hi => ?_; (simp only [List.cons_append, List.nil_append]); unfold vc_spec_l6Draw
  ((first | apply den_draw | apply den_drawR); (focus (simp only [VC.den, E.den, dEq, gsH_nil, and_true]; try exact rfl)); (focus (simp only [VC.den, E.den, dEq, gsH_nil, and_true]; try exact rfl)); (focus (exact ⟨_, _, _, rfl, by assumption, by assumption⟩)); (focus (first | exact d_l6RecipeM | exact Dr.ofR (d_l6RecipeM))); (focus (exact fun _ h => isRec.ty h)); rintro _ rows i sd ⟨tx, rfl, htx, hrec⟩ hr hi; (simp only [List.cons_append, List.nil_append]))
  ((first | apply den_draw | apply den_drawR); (focus (simp only [VC.den, E.den, dEq, gsH_nil, and_true]; try exact rfl)); (focus (simp only [VC.den, E.den, dEq, gsH_nil, and_true]; try exact rfl)); (focus (exact ⟨_, _, _, rfl, by assumption, by assumption⟩)); (focus (first | exact d_l1Below _ | exact Dr.ofR (d_l1Below _))); (focus (exact fun _ h => isBel.ty h)); rintro _ rows i sd ⟨y, rfl, hy⟩ hr hi; (simp only [List.cons_append, List.nil_append]))
  have hy2 := hy.2 (by omega)
  have hy1 := hy.1
  ((first | apply den_draw | apply den_drawR); (focus (simp only [VC.den, E.den, dEq, gsH_nil, and_true]; try exact rfl)); (focus (simp only [VC.den, E.den, dEq, gsH_nil, and_true]; try exact rfl)); (focus (exact ⟨_, _, _, rfl, by assumption, by assumption⟩)); (focus (first | exact d_l1IntM [0, 1, 1, 2, 3] (by decide) | exact Dr.ofR (d_l1IntM [0, 1, 1, 2, 3] (by decide)))); (focus (exact fun _ h => isIM.ty h)); rintro _ rows i sd ⟨n, rfl, hn⟩ hr hi; (simp only [List.cons_append, List.nil_append]))
  have hn0 : 0 ≤ n ∧ n ≤ 3 := by simp at hn; omega
  refine den_loop EnSt EnSt.lay (fun s => RowsTy tbl.tab [.int .u8] s.rows ∧ 0 ≤ s.i ∧ 0 ≤ s.n ∧ (s.e.needs.length : Int) + s.n ≤ 3 ∧ s.e.recipe.length ≤ 5 ∧ s.e.name = nm ∧ recOk s.e.recipe = true ∧ s.e.ver.ok = true ∧ ∀ x ∈ s.e.needs, needB x = true ∧ x.frm ≠ nm) (fun s => s.n.toNat) ⟨n, rows, i, sd, ⟨nm, tx, ⟨1, y⟩, []⟩⟩ (fun s s' h => by simp [EnSt.lay] at h; rw [h.1]) rfl ⟨hr, hi, hn0.1, by simp; omega, htx, rfl, hrec, by simp [Ver.ok]; omega, by simp⟩ ?_
  rintro ⟨m, rows, i, sd, ⟨nm', tx, ver, nd⟩⟩ ⟨hr, hi, hm, hml, htx, hnm, hrec, hver, hnd⟩ -
  simp only at hr hi hm hml htx hnm hrec hver hnd
  subst hnm
  simp only [EnSt.lay, List.cons_append, List.nil_append]
  refine den_ite (fun h => ?_) (fun h => ?_)
  · simp [E.den, cmpI] at h
    ((first | apply den_draw | apply den_drawR); (focus (simp only [VC.den, E.den, dEq, gsH_nil, and_true]; try exact rfl)); (focus (simp only [VC.den, E.den, dEq, gsH_nil, and_true]; try exact rfl)); (focus (exact ⟨_, _, _, rfl, by assumption, by assumption⟩)); (focus (first | exact d_l6NeedDraw | exact Dr.ofR (d_l6NeedDraw))); (focus (exact fun _ h => isN.ty h)); rintro _ rows i sd ⟨x, rfl⟩ hr hi; (simp only [List.cons_append, List.nil_append]))
    ((first | refine den_call ?_ (c_spec_IsNeed x) (trivial) ?_ | refine den_callR ?_ (c_spec_IsNeed x) (trivial) ?_ | refine den_call ?_ (.ofR (c_spec_IsNeed x)) (trivial) ?_); (focus (simp only [VC.den, E.den, dEq, gsH_nil, and_true]; try exact rfl)); (simp only [List.cons_append, List.nil_append]))
    have hms : arI .sub .i64 m 1 = m - 1 := ar_sub (by omega) (by omega)
    refine den_ite (fun h2 => ?_) (fun h2 => ?_)
    · simp only [E.den, dEq, iEq, sEq, cells_Need] at h2
      have h2 : needB x = true ∧ x.frm ≠ nm' := by simpa using h2
      refine den_cond (fun _ => ?_) ?_
      · simp [E.den]; omega
      refine ⟨⟨m - 1, rows, i, sd, ⟨nm', tx, ver, nd ++ [x]⟩⟩, ?_, ⟨hr, hi, by simp only; omega, by simp; omega, htx, rfl, hrec, hver, fun z hz => ?_⟩, by simp only; omega⟩
      · simp [E.den, EnSt.lay, hms, encS]
      · rcases List.mem_append.1 hz with hz | hz
        · exact hnd z hz
        · simp at hz; subst hz; exact h2
    · refine ⟨⟨m - 1, rows, i, sd, ⟨nm', tx, ver, nd⟩⟩, ?_, ⟨hr, hi, by simp only; omega, by simp only; omega, htx, rfl, hrec, hver, hnd⟩, by simp only; omega⟩
      simp [E.den, EnSt.lay, hms]
  · refine ⟨⟨⟨nm', tx, ver, nd⟩, rfl, ⟨htx, by simp only; omega⟩, fun hb => ⟨?_, rfl⟩⟩, _, _, _, rfl, hr, hi⟩
    unfold entryB
    simp only [Bool.and_eq_true, decide_eq_true_eq, allTo_iff]
    refine ⟨⟨⟨⟨hrec, hb⟩, hver⟩, by omega⟩, fun k hk => ?_⟩
    have := hnd _ (nth_mem hk)
    unfold needAt
    simp [this.1, this.2]
def isReg (r : D) : Prop := ∃ l : List Entry, r = encS l ∧ regB l = true ∧ ∀ e ∈ l, e.recipe.length ≤ 5 ∧ e.needs.length ≤ 3
theorem isReg.ty {r : D} (h : isReg r) : HasVT tbl.tab (.one (.c (.sl 30))) r := by obtain ⟨n, rfl, _⟩ := h; exact ty_EntryS n
theorem six_ok : ∀ i, i < 6 → nameB (nth sixN i) = true ∧ (0 < i → ltB (nth sixN (i - 1)) (nth sixN i) = true) := by
  intro i hi
  match i, hi with
  | 0, _ => exact ⟨by kernel_rfl, fun h => absurd h (by omega)⟩
  | 1, _ => exact ⟨by kernel_rfl, fun _ => by kernel_rfl⟩
  | 2, _ => exact ⟨by kernel_rfl, fun _ => by kernel_rfl⟩
  | 3, _ => exact ⟨by kernel_rfl, fun _ => by kernel_rfl⟩
  | 4, _ => exact ⟨by kernel_rfl, fun _ => by kernel_rfl⟩
  | 5, _ => exact ⟨by kernel_rfl, fun _ => by kernel_rfl⟩
theorem six_take {n k : Nat} (h : k < n) : nth (sixN.take n) k = nth sixN k := by
  unfold nth
  simp only [List.getD_eq_getElem?_getD, List.getElem?_take, if_pos h]
theorem nth_snoc {α : Type} [Inhabited α] (l : List α) (x : α) (i : Nat) : nth (l ++ [x]) i = if i = l.length then x else nth l i := by
  unfold nth
  simp only [List.getD_eq_getElem?_getD]
  rcases Nat.lt_trichotomy i l.length with h | h | h
  · rw [List.getElem?_append_left h, if_neg (by omega)]
  · subst h; simp
  · rw [if_neg (by omega), List.getElem?_eq_none (by simp; omega), List.getElem?_eq_none (by omega)]
theorem six_reg {l : List Entry} (h6 : l.length ≤ 6) (h : ∀ i, i < l.length → entryB (nth l i) = true ∧ (nth l i).name = nth sixN i) : regB l = true := by
  unfold regB
  rw [Bool.and_eq_true, decide_eq_true_eq, allTo_iff]
  refine ⟨h6, fun i hi => ?_⟩
  unfold entryAt
  rw [(h i hi).1, (h i hi).2, Bool.true_and]
  rcases Nat.eq_zero_or_pos i with rfl | hp
  · rfl
  · rw [(h (i - 1) (by omega)).2, (six_ok i (by omega)).2 hp]
    simp
theorem d_l6SetM : DrR 65 [] isReg [(0, 5)] := by
  refine DrR.of vc_spec_l6Set_ok rt_spec_l6Set_ok rfl ty_spec_l6Set_ok (fun cs h => by exact cur_tys h) (encS ([] : List Entry)) ⟨_, rfl, rfl, by simp⟩ fun rows i sd f1 hl hr hi => ?_; (simp only [List.cons_append, List.nil_append]); unfold vc_spec_l6Set
  ((first | apply den_draw | apply den_drawR); (focus (simp only [VC.den, E.den, dEq, gsH_nil, and_true]; try exact rfl)); (focus (simp only [VC.den, E.den, dEq, gsH_nil, and_true]; try exact rfl)); (focus (exact ⟨_, _, _, rfl, by assumption, by assumption⟩)); (focus (first | exact d_l1Below _ | exact Dr.ofR (d_l1Below _))); (focus (exact fun _ h => isBel.ty h)); rintro _ rows i sd ⟨n, rfl, hn⟩ hr hi; (simp only [List.cons_append, List.nil_append]))
  have hn2 := hn.2 (by omega)
  obtain ⟨n, rfl⟩ : ∃ m : Nat, n = m := ⟨n.toNat, by omega⟩
  have hn6 : n ≤ 6 := by omega
  have hcut : cutD (.sl [[.str ⟨#[97]⟩], [.str ⟨#[98]⟩], [.str ⟨#[99]⟩], [.str ⟨#[100]⟩], [.str ⟨#[101]⟩], [.str ⟨#[102]⟩]]) 0 (n : Int) = encS (sixN.take n) := by
    simp [cutD, sixN, encS, cells_str, List.map_take]
  refine den_cond (fun _ => ?_) ?_
  · simp [E.den, lenD]; omega
  refine den_loop E6St E6St.lay (fun s => RowsTy tbl.tab [.int .u8] s.rows ∧ 0 ≤ s.i ∧ s.k ≤ n ∧ s.l.length = s.k ∧ (∀ e ∈ s.l, e.recipe.length ≤ 5 ∧ e.needs.length ≤ 3) ∧ ∀ i, i < s.l.length → entryB (nth s.l i) = true ∧ (nth s.l i).name = nth sixN i) (fun s => n - s.k) ⟨[], 0, rows, i, sd⟩ (fun s s' h => by simp [E6St.lay] at h; omega) rfl ⟨hr, hi, by simp, rfl, by simp, fun i hi => absurd hi (by simp)⟩ ?_
  rintro ⟨l, k, rows, i, sd⟩ ⟨hr, hi, hk, hlk, hfew, hok⟩ -
  simp only at hr hi hk hlk hfew hok
  simp only [E6St.lay, List.cons_append, List.nil_append]
  have hlen : (sixN.take n).length = n := by simp [sixN]; omega
  refine den_ite (fun h => ?_) (fun h => ?_)
  · simp only [E.den, dEq, iEq, sEq, List.nil_append, List.map_cons, List.map_nil, hcut, hlen] at h
    have hkn : k < n := by simp at h; exact h
    refine den_cond (fun _ => ?_) ?_
    · simp only [E.den, dEq, iEq, sEq, List.nil_append, List.map_cons, List.map_nil, hcut, hlen]
      simp; omega
    ((first | apply den_draw | apply den_drawR); (focus (simp only [VC.den, E.den, dEq, gsH_nil, and_true, List.nil_append, hcut, hlen, row_str, cells_str]; try exact rfl)); (focus (simp only [VC.den, E.den, dEq, gsH_nil, and_true, List.nil_append, hcut, hlen, row_str, cells_str]; try exact rfl)); (focus (exact ⟨_, _, _, rfl, by assumption, by assumption⟩)); (focus (first | exact d_l6DrawM (nth (sixN.take n) k) | exact Dr.ofR (d_l6DrawM (nth (sixN.take n) k)))); (focus (exact fun _ h => isOk.ty h)); rintro _ rows i sd ⟨e, rfl, h1, h2⟩ hr hi; (simp only [List.cons_append, List.nil_append]))
    rw [six_take hkn] at h2
    have h2 := h2 (six_ok k (by omega)).1
    refine den_cond (fun _ => ?_) ?_
    · simp [E.den]; omega
    refine ⟨⟨l ++ [e], k + 1, rows, i, sd⟩, ?_, ⟨hr, hi, by simp only; omega, by simp; omega, ?_, ?_⟩, by simp only; omega⟩
    · simp [E.den, E6St.lay, encS]
      rw [ar_add (by omega) (by omega)]
    · intro e' he'
      rcases List.mem_append.1 he' with h | h
      · exact hfew e' h
      · simp at h; subst h; exact h1
    · intro j hj
      simp only [List.length_append, List.length_cons, List.length_nil] at hj
      rw [nth_snoc]
      split
      · rename_i e1
        rw [e1, hlk]; exact h2
      · exact hok j (by omega)
  · exact ⟨⟨l, rfl, six_reg (by omega) hok, hfew⟩, _, _, _, rfl, hr, hi⟩
end Go.Proofs.Ythoafgehfgblaaa
/- The reference's registry without stuck entries, walked by hand: needs are taken away in place; the drawn registry. -/
namespace Go.Proofs.Ythoafgehfgblaaa
open Go.RowKit Go
set_option linter.unusedVariables false
set_option linter.unusedSimpArgs false
set_option maxRecDepth 100000
set_option linter.unusedSectionVars false
variable [GC]
/-- How many needs the entries behind a slice have, by the lengths that stand in their cells. -/
def muN (w : World) (a : Option Addr) (n : Nat) : Nat := match a with
  | none => 0
  | some p => ((List.range n).map fun k => match w.cell? ⟨p.block, p.off + k * 5 + 4, none⟩ with | some (.slice _ m _) => m | _ => 0).sum
theorem len5 (e : Entry) : (Enc.cells e).length = 5 := rfl
theorem rows5 (l : List Entry) : ∀ r ∈ l.map Enc.cells, r.length = 5 := fun r hr => by
  obtain ⟨e, _, rfl⟩ := List.mem_map.1 hr; rfl
/-- What stands in an entry's cell of needs. -/
theorem needs_cell {w : World} {M : Addr → Prop} {l : List Entry} {b o len cap k : Nat} {s : Option Nat} (h : R w M (encS l) (.slice (some ⟨b, o, s⟩) len cap)) (hk : k < l.length) :
    ∃ u, w.cell? ⟨b, o + k * 5 + 4, none⟩ = some u ∧ ¬ M ⟨b, o + k * 5 + 4, none⟩ ∧ R w M (encS (nth l k).needs) u :=
  flat_cells (rows5 l) h (i := k) (j := 4) (get_map l hk) rfl
theorem mu_tot {w : World} {M : Addr → Prop} {l : List Entry} {a : Option Addr} {len cap : Nat} (h : R w M (encS l) (.slice a len cap)) : muN w a len = tot l := by
  have h0 := h
  obtain ⟨a', len', cap', e, h1, h2, h3, h4, h5⟩ := h
  cases e
  rw [List.length_map] at h1
  subst h1
  rcases a with _ | ⟨b, o, s⟩
  · have : l = [] := List.eq_nil_of_length_eq_zero (by have := h4 rfl; omega)
    subst this; rfl
  · unfold muN tot
    dsimp only
    congr 1
    apply List.ext_getElem
    · simp
    · intro k hk1 hk2
      have hk : k < l.length := by simpa using hk1
      obtain ⟨u, c1, _, c3⟩ := needs_cell h0 hk
      obtain ⟨a2, n2, cp2, rfl, q1, _⟩ := c3
      simp only [List.getElem_map, List.getElem_range, c1]
      rw [q1, List.length_map]
      congr 2
      simp [nth, List.getD_eq_getElem?_getD, hk]
theorem leaf_rows {w w' : World} {M : Addr → Prop} {rows : List (List D)} {n : Nat} {v : Value} (hn : ∀ r ∈ rows, r.length = n) (hlf : ∀ r ∈ rows, ∀ d ∈ r, leafD d = true) (h : R w M (.sl rows) v)
    (hk : ∀ p u, w.cell? p = some u → (∀ a m c, u ≠ .slice a m c) → w'.cell? p = some u) : R w' M (.sl rows) v := by
  have h0 := h
  obtain ⟨a, len, cap, rfl, h1, h2, h3, h4, h5⟩ := h
  rcases a with _ | ⟨b, o, s⟩
  · have : rows = [] := List.eq_nil_of_length_eq_zero (by have := h4 rfl; omega)
    subst this
    exact ⟨none, len, cap, rfl, h1, h2, h3, h4, fun b o s e => by cases e⟩
  · refine flat_of hn h1 h2 h3 (h5 b o s rfl).1 fun i j r d hi hj => ?_
    obtain ⟨u, c1, c2, c3⟩ := flat_cells hn h0 hi hj
    have hl := hlf r (List.mem_of_getElem? hi) d (List.mem_of_getElem? hj)
    refine ⟨u, hk _ _ c1 fun a m c e => ?_, c2, leaf_move hl c3⟩
    subst e
    cases d <;> simp [leafD] at hl
    · cases (show Value.slice a m c = .bool _ from c3)
    · cases c3.1
    · cases c3.1
theorem leaf_u8 {r : List D} (h : RowTy tbl.tab [.int .u8] r) {d : D} (hd : d ∈ r) : leafD d = true := by
  match r, h with
  | [x], h =>
    simp at hd; subst hd
    obtain ⟨n, rfl⟩ := hasTy_int h.1
    rfl
theorem keep_set {w : World} {p0 : Addr} {a : Option Addr} {m c : Nat} {v : Value} (hc : w.cell? p0 = some (.slice a m c)) : ∀ p u, w.cell? p = some u → (∀ a m c, u ≠ .slice a m c) → (w.setCell p0 v).cell? p = some u := by
  intro p u hp hu
  have hs := cell_spot hc
  rcases cell_set_ne (w := w) (v := v) (p := p) (a := p0) (fun e => by subst e; rw [hc] at hp; cases hp; exact hu _ _ _ rfl) hs (.inr trivial) with h6 | ⟨h6, h7⟩
  · rw [h6]; exact hp
  · have h8 := cell_spot hp
    have : p = p0 := by cases p; cases p0; simp_all
    subst this
    rw [hc] at hp; cases hp
    exact absurd rfl (hu _ _ _)
theorem leaf_str (l : List ByteArray) : ∀ r ∈ l.map Enc.cells, ∀ d ∈ r, leafD d = true := fun r hr d hd => by
  obtain ⟨x, _, rfl⟩ := List.mem_map.1 hr
  simp [cells_str] at hd; subst hd; rfl
theorem leaf_need (l : List Need) : ∀ r ∈ l.map Enc.cells, ∀ d ∈ r, leafD d = true := fun r hr d hd => by
  obtain ⟨x, _, rfl⟩ := List.mem_map.1 hr
  simp [cells_Need] at hd
  rcases hd with rfl | rfl | rfl | rfl <;> rfl
theorem len_str1 (l : List ByteArray) : ∀ r ∈ l.map Enc.cells, r.length = 1 := fun r hr => by
  obtain ⟨x, _, rfl⟩ := List.mem_map.1 hr; rfl
theorem len_need4 (l : List Need) : ∀ r ∈ l.map Enc.cells, r.length = 4 := fun r hr => by
  obtain ⟨x, _, rfl⟩ := List.mem_map.1 hr; rfl
/-- The last need of an entry is taken away in place. -/
theorem trim_set {w : World} {M : Addr → Prop} {l : List Entry} {b o len cap k : Nat} {s : Option Nat} {a2 : Option Addr} {m c2 : Nat} (h : R w M (encS l) (.slice (some ⟨b, o, s⟩) len cap)) (hk : k < l.length)
    (hc : w.cell? ⟨b, o + k * 5 + 4, none⟩ = some (.slice a2 m c2)) (hm : 0 < m) : R (w.setCell ⟨b, o + k * 5 + 4, none⟩ (.slice a2 (m - 1) c2)) M (encS (trim1 l k)) (.slice (some ⟨b, o, s⟩) len cap) := by
  have h0 := h
  obtain ⟨a, len', cap', e, h1, h2, h3, h4, h5⟩ := h
  cases e
  have hkeep : ∀ p u, w.cell? p = some u → (∀ a m c, u ≠ .slice a m c) → (w.setCell ⟨b, o + k * 5 + 4, none⟩ (.slice a2 (m - 1) c2)).cell? p = some u := by
    intro p u hp hu
    rcases cell_set_ne (w := w) (v := .slice a2 (m - 1) c2) (p := p) (a := ⟨b, o + k * 5 + 4, none⟩) (fun e => by subst e; rw [hc] at hp; cases hp; exact hu _ _ _ rfl) rfl (.inr trivial) with h6 | ⟨h6, h7⟩
    · rw [h6]; exact hp
    · have h8 := cell_spot hp
      have : p = ⟨b, o + k * 5 + 4, none⟩ := by cases p; simp_all
      subst this
      rw [hc] at hp; cases hp
      exact absurd rfl (hu _ _ _)
  show R _ M (.sl ((trim1 l k).map Enc.cells)) _
  refine flat_of (rows5 _) (by rw [List.length_map, trim_len]; simpa using h1) h2 h3 (h5 b o s rfl).1 fun i j r d hi hj => ?_
  have hil : i < l.length := by
    have := (List.getElem?_eq_some_iff.1 hi).1
    rw [List.length_map, trim_len] at this; exact this
  rw [get_map _ (by rw [trim_len]; exact hil)] at hi
  cases hi
  have hold := fun j' d' (hj' : (Enc.cells (nth l i))[j']? = some d') => flat_cells (rows5 l) h0 (i := i) (j := j') (get_map l hil) hj'
  rw [nth_trim hk] at hj
  by_cases hik : i = k
  · subst hik
    rw [if_pos rfl] at hj
    match j, hj with
    | 0, hj => obtain ⟨u, c1, c2', c3⟩ := hold 0 _ rfl; cases hj; exact ⟨u, hkeep _ _ c1 (fun a m c e => by subst e; cases c3.1), c2', c3⟩
    | 1, hj =>
      obtain ⟨u, c1, c2', c3⟩ := hold 1 _ rfl
      cases hj
      have c3' := leaf_rows (len_str1 _) (leaf_str _) c3 hkeep
      refine ⟨u, ?_, c2', c3'⟩
      rcases cell_set_ne (w := w) (v := .slice a2 (m - 1) c2) (p := ⟨b, o + i * 5 + 1, none⟩) (a := ⟨b, o + i * 5 + 4, none⟩) (fun e => by simp at e) rfl (.inr trivial) with h6 | ⟨_, h7⟩
      · rw [h6]; exact c1
      · simp at h7
    | 2, hj => obtain ⟨u, c1, c2', c3⟩ := hold 2 _ rfl; cases hj; exact ⟨u, hkeep _ _ c1 (fun a m c e => by subst e; cases c3.1), c2', c3⟩
    | 3, hj => obtain ⟨u, c1, c2', c3⟩ := hold 3 _ rfl; cases hj; exact ⟨u, hkeep _ _ c1 (fun a m c e => by subst e; cases c3.1), c2', c3⟩
    | 4, hj =>
      obtain ⟨u, c1, c2', c3⟩ := hold 4 _ rfl
      cases hj
      rw [hc] at c1
      cases c1
      refine ⟨_, cell_at hc, c2', ?_⟩
      have c3' := leaf_rows (len_need4 _) (leaf_need _) c3 hkeep
      obtain ⟨a3, n3, cp3, e3, q1, q2, q3, q4, q5⟩ := c3'
      cases e3
      rw [List.length_map] at q1
      refine ⟨a2, m - 1, c2, rfl, ?_, by omega, q3, q4, fun b' o' s' he => ⟨fun h => (q5 b' o' s' he).1 (by omega), ?_⟩⟩
      · show m - 1 = ((nth l i).needs.dropLast.map Enc.cells).length
        rw [List.length_map, List.length_dropLast]; omega
      · have q6 := (q5 b' o' s' he).2
        refine Rws.of (n := 4) (len_need4 _) fun i' r' hr' => q6.get (len_need4 _) ?_
        have hi' := (List.getElem?_eq_some_iff.1 hr').1
        rw [List.length_map] at hi'
        have hd : i' < (nth l i).needs.length - 1 := by
          have : (trimE (nth l i)).needs.length = (nth l i).needs.length - 1 := List.length_dropLast
          omega
        rw [← hr', List.getElem?_map, List.getElem?_map]
        show _ = Option.map _ ((nth l i).needs.dropLast[i']?)
        rw [List.getElem?_dropLast, if_pos hd]
  · rw [if_neg hik] at hj
    obtain ⟨u, c1, c2', c3⟩ := hold j d hj
    have hne : ∀ j, j < 5 → o + i * 5 + j ≠ o + k * 5 + 4 := fun j hj5 e => hik (by omega)
    have hj5 : j < 5 := by have := (List.getElem?_eq_some_iff.1 hj).1; simpa [len5] using this
    refine ⟨u, ?_, c2', ?_⟩
    · rcases cell_set_ne (w := w) (v := .slice a2 (m - 1) c2) (p := ⟨b, o + i * 5 + j, none⟩) (a := ⟨b, o + k * 5 + 4, none⟩) (fun e => hne j hj5 (congrArg Addr.off e)) rfl (.inr trivial) with h6 | ⟨_, h7⟩
      · rw [h6]; exact c1
      · exact absurd h7 (hne j hj5)
    · match j, hj with
      | 0, hj => cases hj; exact c3
      | 1, hj => cases hj; exact leaf_rows (len_str1 _) (leaf_str _) c3 hkeep
      | 2, hj => cases hj; exact c3
      | 3, hj => cases hj; exact c3
      | 4, hj => cases hj; exact leaf_rows (len_need4 _) (leaf_need _) c3 hkeep
theorem Fun.calls {P : Program} {f : FuncId} {ds : List D} {r : D} (h : Fun P f none ds r []) {w : World} {M : Addr → Prop} {vs : List Value} (hG : Rdy w M) (hr : Rs w M ds vs) :
    Calls P f vs.toArray w fun e w' => ∃ v, e = .returned v ∧ R w' M r v ∧ Below w.heap.size w w' :=
  (h.2 w M 0 vs hG hr (fun cs h => by cases h)).mono fun e w' ⟨v, h1, h2, h3, _⟩ => ⟨v, h1, h2, h3.to_below⟩
structure SevI (w : World) (M : Addr → Prop) (g : Nat) (cs : List D) (R0 : List Entry) (a : Option Addr) (len cap : Nat) (wr : World) (l : List Entry) : Prop where
  fr : Fr w.heap.size (some g) w wr
  bx : ∃ us T, wr.heap[g]? = some (.cells us.toArray T (0, 0)) ∧ Rs wr M cs us
  rd : R wr M (encS l) (.slice a len cap)
  reg : regB l = true
  trm : trimN (tot l) l = R0
  live : ∀ b o s, a = some ⟨b, o, s⟩ → 0 < cap → s = none ∧ w.heap.size ≤ b ∧ ∃ cells T, wr.heap[b]? = some (.cells cells T (0, 0)) ∧ o + cap * 5 ≤ cells.size
theorem SevI.below {w : World} {M : Addr → Prop} {g : Nat} {cs : List D} {R0 : List Entry} {a : Option Addr} {len cap : Nat} {wr w' : World} {l : List Entry} (h : SevI w M g cs R0 a len cap wr l) (hb : Below wr.heap.size wr w') : SevI w M g cs R0 a len cap w' l := by
  have hkp : Keeps wr M w' M := Keeps.below hb fun _ _ h => h
  refine ⟨h.fr.trans (Fr.of_below hb h.fr.size), ?_, R.keep hkp _ _ h.rd, h.reg, h.trm, fun b o s e hc => ?_⟩
  · obtain ⟨us, T, h1, h2⟩ := h.bx
    have hg : g < wr.heap.size := (Array.getElem?_eq_some_iff.1 h1).1
    exact ⟨us, T, by rw [hb.block g hg]; exact h1, Rs.keep hkp _ _ h2⟩
  · obtain ⟨h1, h2, cells, T, h3, h4⟩ := h.live b o s e hc
    have hbl : b < wr.heap.size := (Array.getElem?_eq_some_iff.1 h3).1
    exact ⟨h1, h2, cells, T, by rw [hb.block b hbl]; exact h3, h4⟩
theorem SevI.rdy {w : World} {M : Addr → Prop} {g : Nat} {cs : List D} {R0 : List Entry} {a : Option Addr} {len cap : Nat} {wr : World} {l : List Entry} (h : SevI w M g cs R0 a len cap wr l) (hG : Rdy w M) (hg : NG ≤ g) : Rdy wr M :=
  ⟨fun p hp => Nat.lt_of_lt_of_le (hG.1 p hp) h.fr.size, hG.2.1.keep fun k hk => h.fr.block k (Nat.lt_of_lt_of_le hk hG.2.2) (fun e => by cases e; omega), Nat.le_trans hG.2.2 h.fr.size⟩
set_option maxHeartbeats 1000000 in
theorem d_l7Set : Dr 66 [] isReg := by
  intro cs hc
  obtain ⟨r0, cs', ⟨l0, rfl, hreg, hfew⟩, hcur, hF⟩ := d_l6SetM cs hc
  have hgood := trimN_good (l := l0) (n := tot l0) hreg hfew
  refine ⟨encS (trimN (tot l0) l0), cs', ⟨_, rfl, hgood.1, hgood.2⟩, hcur, by kernel_rfl, fun w M g vs hG hvs hbx => ?_⟩
  obtain rfl : vs = [] := hvs
  obtain ⟨us, T, hb, hus, hng, hMg⟩ := hbx cs rfl
  have hgl : g < w.heap.size := (Array.getElem?_eq_some_iff.1 hb).1
  have hM := hG.1
  have hC := hF.2 w M g [] hG rfl hbx
  show Calls Try.prog 66 #[.pointer (some ⟨g, 0, none⟩)] w _
  generalize hR0 : trimN (tot l0) l0 = R0
  have HC := Lib.hid hC
  go_enter Try.func66, Try.ntmps66
  go_wp2_with fail
  refine HC.out.mono ?_
  rintro e w1 ⟨v1, rfl, hr1, hf1, hrt1, hbx1⟩
  obtain ⟨us1, T1, hb1, hus1⟩ := hbx1 rfl
  have hless : ∀ p, M p → M p ∨ RtM v1 [(0, 5)] p := fun p hp => .inl hp
  have hr1' : R w1 M (encS l0) v1 := R.less hr1 hless
  have hus1' : Rs w1 M cs' us1 := Rs.keep (fun p v hp hn => ⟨hp, fun hm => hn (.inl hm)⟩) _ _ hus1
  have hlv := hrt1.1 (0, 5) (by simp)
  obtain ⟨a, len, cap, hv1, -⟩ := (show R w1 M (.sl (l0.map Enc.cells)) v1 from hr1')
  subst hv1
  have hI0 : SevI w M g cs' R0 a len cap w1 l0 := ⟨hf1, ⟨us1, T1, hb1, hus1'⟩, hr1', hreg, hR0, fun b o s e hc => hlv b o s len cap (by rw [e]; rfl) hc⟩
  have HI0 := Lib.hid hI0
  clear hI0 hr1 hr1' hus1 hus1' hlv hrt1 hbx1 hb1 hf1
  go_wp2
  go_loopw [4] (fun kk wr => ∃ l, SevI w M g cs' R0 a len cap wr l) (fun kk wr => muN wr a len)
  case atStart => exact ⟨l0, HI0.out⟩
  case round =>
    obtain ⟨l, hI⟩ := hrel
    have HI := Lib.hid hI
    have HLen := Lib.hid (show l.length = len by
      obtain ⟨a', len', cap', e, h1, _⟩ := hI.rd
      cases e
      rw [h1, List.length_map])
    have hS : ∀ w0 : World, SevI w M g cs' R0 a len cap w0 l → Calls Try.prog 35 #[.slice a len cap] w0 fun e w' => ∃ v, e = .returned v ∧ R w' M (encS (stuckN l)) v ∧ Below w0.heap.size w0 w' :=
      fun w0 h => Fun.calls (.ofR (c_spec_StuckOf l)) (vs := [.slice a len cap]) (h.rdy hG hng) ⟨_, [], rfl, h.rd, rfl⟩
    have HS := Lib.hid hS
    clear hS hI
    go_wp2_with fail
    refine (HS.out _ HI.out).mono ?_
    rintro e w2 ⟨v2, rfl, hr2, hf2⟩
    have HI2 := Lib.hid (HI.out.below hf2)
    obtain ⟨a2, len2, cap2, rfl, hl2, h22, h23, h24, h25⟩ := (show R w2 M (.sl ((stuckN l).map Enc.cells)) v2 from hr2)
    rw [List.length_map] at hl2
    cases hs : stuckN l with
    | nil =>
      rw [hs] at hl2
      obtain rfl : len2 = 0 := hl2
      have HE := Lib.hid hs
      clear hr2 h25 h22 h23 h24 hs hf2
      go_wp2
      go_ret
      have hI2 := HI2.out
      have e1 : l = R0 := by rw [← hI2.trm, trimN_end HE.out]
      subst e1
      obtain ⟨us2, T2, q1, q2⟩ := hI2.bx
      exact ⟨_, rfl, hI2.rd, hI2.fr, fun _ => ⟨us2, T2, q1, q2⟩⟩
    | cons s r =>
      obtain ⟨k, hkl, hki, hkn⟩ := stuck_first HI.out.reg hs
      rw [hs] at hl2
      have hl2p : (0 : Int) < (len2 : Int) := by simp at hl2; omega
      clear hr2 h25
      go_wp2_with fail
      refine (HS.out _ HI2.out).mono ?_
      rintro e w3 ⟨v3, rfl, hr3, hf3⟩
      have HI3 := Lib.hid (HI2.out.below hf3)
      obtain ⟨a3, len3, cap3, hv3, hl3, _, _, h34, h35⟩ := (show R w3 M (.sl ((stuckN l).map Enc.cells)) v3 from hr3)
      subst hv3
      rw [List.length_map, hs] at hl3
      have hl3p : (0 : Int) < (len3 : Int) := by simp at hl3; omega
      obtain ⟨b3, o3, s3, rfl⟩ : ∃ b3 o3 s3, a3 = some ⟨b3, o3, s3⟩ := by
        rcases a3 with _ | ⟨b3, o3, s3⟩
        · have := h34 rfl; simp at hl3; omega
        · exact ⟨b3, o3, s3, rfl⟩
      have hs3 := (h35 b3 o3 s3 rfl).1 (by omega)
      subst hs3
      rw [hs] at hr3
      obtain ⟨u3, c31, _, c33⟩ := flat_cells (len_str1 _) hr3 (i := 0) (j := 0) (r := [.str s]) rfl rfl
      have hu3 : u3 = .string s := c33.1
      subst hu3
      have hsz := c33.2
      simp only [Nat.zero_mul, Nat.add_zero] at c31
      clear hr3 h35 c33
      have hF4 : ∀ w0 : World, SevI w M g cs' R0 a len cap w0 l → Calls Try.prog 58 #[.slice a len cap, .string s] w0 fun e w' => ∃ v, e = .returned v ∧ R w' M (.int .i64 (findI l s)) v ∧ Below w0.heap.size w0 w' :=
        fun w0 h => Fun.calls (c_spec_FindEntry l s) (vs := [.slice a len cap, .string s]) (h.rdy hG hng) ⟨_, _, rfl, h.rd, _, [], rfl, ⟨rfl, hsz⟩, rfl⟩
      have HF4 := Lib.hid hF4
      clear hF4
      go_wp2_with fail
      refine (HF4.out _ HI3.out).mono ?_
      rintro e w4 ⟨v4, rfl, hr4, hf4⟩
      have hv4 : v4 = .int .i64 (k : Int) := by rw [← hki]; exact hr4.1
      subst hv4
      have hI4 := HI3.out.below hf4
      obtain ⟨b, o, sp, rfl⟩ : ∃ b o sp, a = some ⟨b, o, sp⟩ := by
        rcases a with _ | ⟨b, o, sp⟩
        · obtain ⟨a', len', cap', e, h1, h2, h3, h4, _⟩ := hI4.rd
          cases e
          have := h4 rfl; have := HLen.out; omega
        · exact ⟨b, o, sp, rfl⟩
      obtain ⟨u5, c51, c52, c53⟩ := needs_cell hI4.rd hkl
      obtain ⟨a5, len5', cap5, rfl, hl5, hl5c, _⟩ := c53
      rw [List.length_map] at hl5
      subst hl5
      have hcap : 0 < cap := by
        obtain ⟨a', len', cap', e, h1, h2, h3, h4, _⟩ := hI4.rd
        cases e
        have := HLen.out; omega
      obtain ⟨hsp, hwb, cells, TT, hbl, hsize⟩ := hI4.live b o sp rfl hcap
      subst hsp
      have hfro4 : w4.frozen? ⟨b, o + k * 5 + 4, none⟩ = false := by
        unfold World.frozen?
        rw [hbl]
        simp
      have hi0 : (0 : Int) ≤ (k : Int) := by omega
      have hi1 : (k : Int) < (len : Int) := by have := HLen.out; omega
      have hp5 : (0 : Int) < ((nth l k).needs.length : Int) := by omega
      have hn5 : ((nth l k).needs.length : Int) ≤ 3 := by have := reg_needs hI4.reg hkl; omega
      obtain ⟨m1, hm1⟩ : ∃ m1, (nth l k).needs.length - 1 = m1 := ⟨_, rfl⟩
      have hw1 : IntKind.i64.wrap (((nth l k).needs.length : Int) - 1) = (m1 : Int) := by
        rw [wrap_i64 (by omega) (by omega)]; omega
      have hc50 : (0 : Int) ≤ (m1 : Int) := by omega
      have hc5 : (m1 : Int) ≤ (cap5 : Int) := by omega
      have hc51 : ¬ ((m1 : Int) < 0) := by omega
      have hc52 : ¬ ((cap5 : Int) < (m1 : Int)) := by omega
      have hI5 := hI4.below ((Below.refl _ w4).drew)
      have c51d : w4.drew.cell? ⟨b, o + k * 5 + 4, none⟩ = some (.slice a5 (nth l k).needs.length cap5) := c51
      have hfrod : w4.drew.frozen? ⟨b, o + k * 5 + 4, none⟩ = false := hfro4
      have hbld : w4.drew.heap[b]? = some (.cells cells TT (0, 0)) := hbl
      have hset := trim_set hI5.rd hkl c51d (by omega)
      rw [hm1] at hset
      have hIn : SevI w M g cs' R0 (some ⟨b, o, none⟩) len cap (w4.drew.setCell ⟨b, o + k * 5 + 4, none⟩ (.slice a5 m1 cap5)) (trim1 l k) := by
        have hob : OneBlock w4.drew (w4.drew.setCell ⟨b, o + k * 5 + 4, none⟩ (.slice a5 m1 cap5)) b := (OneBlock.refl w4.drew b).set _ _
        refine ⟨hI5.fr.trans (Fr.of_one hob (.inl hwb)), ?_, hset, trim_reg hI5.reg hkl, (trimN_step hI5.reg hs hki hkl hkn).symm.trans hI5.trm, fun b' o' s' e _ => ?_⟩
        · obtain ⟨us4, T4, q1, q2⟩ := hI5.bx
          obtain ⟨rows, ci, ch, rfl, hrt, _⟩ := hcur
          obtain ⟨v0, r0, rfl, q3, q4⟩ := q2
          refine ⟨_, T4, by rw [hob.block g (by omega)]; exact q1, v0, r0, rfl, ?_, q4⟩
          exact leaf_rows (n := 1) (fun r hr => (hrt.mem r hr).length) (fun r hr d hd => leaf_u8 (hrt.mem r hr) hd) q3 (keep_set c51d)
        · cases e
          refine ⟨rfl, hwb, cells.setIfInBounds (o + k * 5 + 4) (.slice a5 m1 cap5), TT, ?_, by simpa using hsize⟩
          unfold World.setCell
          simp [Array.getElem?_modify, hbld]
      have hmu : muN (w4.drew.setCell ⟨b, o + k * 5 + 4, none⟩ (.slice a5 m1 cap5)) (some ⟨b, o, none⟩) len < muN wr (some ⟨b, o, none⟩) len := by
        rw [mu_tot hIn.rd, mu_tot HI.out.rd]
        have := tot_trim hkl hkn
        omega
      have HIn := Lib.hid hIn
      have HMu := Lib.hid hmu
      have HS5 := Lib.hid hs
      clear hI4 hI5 hIn hset hmu hbl hbld hsize hs hl5c hm1
      go_wp2
      (refine region_still_tail 15 (by kernel_rfl) (by kernel_rfl) ?_; simp only [List.take_succ_cons, List.take_zero, List.drop_succ_cons, List.drop_zero]; (repeat still_step)); refine wpStill_nil ?_
      go_wp2
      exact ⟨⟨trim1 l k, HIn.out⟩, HMu.out⟩
end Go.Proofs.Ythoafgehfgblaaa
