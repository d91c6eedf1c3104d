/- Walk: what a call does to a core in a box (does). -/
import Derived.Test.YtbgcaneflfdddaaGreatDoorE14
set_option linter.unusedVariables false
set_option linter.unusedSimpArgs false
set_option linter.unusedSectionVars false
set_option maxRecDepth 100000
namespace Go.Proofs.YtbgcaneflfdddaaGreatDoor
open Go.RowKit Go
variable [GC]
theorem w_FormatCells [HasPow] {K : Nat → Prop} {w : World} {g : Nat} {S2 : Value} {p : Part} (h : PB K w g S2 p) {S1 : Value} (hr : Row2 K w g S1 (prC p.core.cells)) :
  Calls Tryz.prog 130 #[S1] w fun e w' => e = .returned (.string (fmtC p.core.cells)) ∧ Below w.heap.size w w' := by
 have hd : R w (fun _ => False) (encS p.core.cells) S1 := by
  have := hr.rd (M := fun _ => False) (fun _ _ _ _ _ _ _ h => h)
  rwa [prC_row] at this
 refine (Fun.calls (c_impl_FormatCells p.core.cells) (vs := [S1]) h.rdy ⟨_, [], rfl, hd, rfl⟩).mono ?_
 rintro e w' ⟨v, rfl, ⟨rfl, _⟩, h3⟩
 exact ⟨rfl, h3⟩
theorem w_ParseCells [HasMax] [HasPow] [HasErr] {K : Nat → Prop} {w : World} {g : Nat} {S2 : Value} {p : Part} (h : PB K w g S2 p) (s : ByteArray) (hs : s.size < 4294967281) :
  Calls Tryz.prog 131 #[.string s] w fun e w' => ∃ S1 a n cap, e = .returned (.tuple #[S1, .bool (parC s).2]) ∧ S1 = .slice a n cap ∧ n = (parC s).1.length ∧ Below w.heap.size w w' ∧ Row2 (Gr K w w') w' g S1 (prC (parC s).1) ∧ (∀ b, OutB S1 b → w.heap.size ≤ b) := by
 refine ((c_impl_ParseCells s hs).2 w _ 0 [.string s] h.rdy ⟨_, [], rfl, ⟨rfl, by unfold maxLen; omega⟩, rfl⟩ (fun cs h => by cases h)).mono ?_
 rintro e w' ⟨v, rfl, ⟨cs, rfl, v1, r1, e1, hr1, v2, r2, rfl, rfl, rfl⟩, h3, h4, _⟩
 have hcs : cs = #[v1, .bool (parC s).2] := by rw [← Array.toList_inj, e1]
 subst hcs
 have hb := h3.to_below
 have hl := h4.1 (0, 2) (by simp)
 have hl2 : LiveAt w.heap.size w' v1 2 := by
  obtain ⟨a, len, cap, rfl, _⟩ := (show R w' _ (.sl ((parC s).1.map Enc.cells)) v1 from hr1)
  exact hl
 have hr : R w' (fun p => False ∨ RtM (.tuple #[v1, .bool (parC s).2]) [(0, 2)] p) (.sl ((prC (parC s).1).map rowP)) v1 := by rw [prC_row]; exact hr1
 have row : Row2 (Gr K w w') w' g v1 (prC (parC s).1) := Row2.of hr hl2 (fun b h1 h2 => .inr ⟨h1, h2⟩) (fun b h1 h2 e => by have := h.glt; omega)
 obtain ⟨a, cap, e, _, _⟩ := row.lenS
 refine ⟨v1, a, _, cap, rfl, e, prC_len _, hb, row, fun b hob => ?_⟩
 obtain ⟨o, s', len, cap', e', hc⟩ := hob
 exact (hl2 b o s' len cap' e' hc).2.1
theorem m_lits : mStart.toList = [83, 116, 97, 114, 116] ∧ mStop.toList = [83, 116, 111, 112] ∧ mGet.toList = [71, 101, 116] ∧ mPut.toList = [80, 117, 116] ∧ mTell.toList = [84, 101, 108, 108] ∧ mHear.toList = [72, 101, 97, 114] ∧ mLoad.toList = [76, 111, 97, 100] ∧ mSave.toList = [83, 97, 118, 101] ∧ mHeal.toList = [72, 101, 97, 108] := by
 refine ⟨?_, ?_, ?_, ?_, ?_, ?_, ?_, ?_, ?_⟩ <;> (rw [ByteArray.toList_eq]; rfl)
theorem m_all : List.Pairwise (· ≠ ·) [mStart, mStop, mGet, mPut, mTell, mHear, mLoad, mSave, mHeal] := by decide
theorem meth_no {m : ByteArray} {l : List UInt8} {x : ByteArray} (hl : m.toList = l) (h : x ≠ m) : (x.toList == l) = false := by
 have : ¬ x.toList = l := fun e => h (toList_inj (by rw [e, hl]))
 simpa using this
set_option maxHeartbeats 60000000 in
theorem t_does [HasPow] [HasMax] [HasErr] (hKO : KeepOk) {K : Nat → Prop} {w : World} {g : Nat} {S2 : Value} {p : Part} {x : Call} (h : PB K w g S2 p) (hx : CallFits x) :
  Calls Tryz.prog 95 #[.pointer (some ⟨g, 0, none⟩), callV x] w (AfterB K w g S2 (onCore p (doesD p.core x))) := by
 have hgl := h.glt
 have H := Lib.hid h
 have HX := Lib.hid hx
 obtain ⟨l1, l2, l3, l4, l5, l6, l7, l8, l9⟩ := m_lits
 have LI := Lib.hid m_lits
 have hkr : ¬ K (w.heap.size + 1) := fun hk => by have := (H.out.kb _ hk).2; omega
 have hkx : ¬ K w.heap.size := fun hk => by have := (H.out.kb _ hk).2; omega
 have HW := Lib.hid (show Below w.heap.size w ((w.alloc (.cells #[.string x.method, .string x.key, .int .i64 x.val, .string x.text] 39)).alloc (.cells zReply 34)) by go_grown)
 have HXB := Lib.hid (show RBlk ((w.alloc (.cells #[.string x.method, .string x.key, .int .i64 x.val, .string x.text] 39)).alloc (.cells zReply 34)) w.heap.size 39 #[.string x.method, .string x.key, .int .i64 x.val, .string x.text] from (RBlk.new w 39 _).alloc _)
 have HR := Lib.hid (show RBlk ((w.alloc (.cells #[.string x.method, .string x.key, .int .i64 x.val, .string x.text] 39)).alloc (.cells zReply 34)) (w.heap.size + 1) 34 zReply by
  have := RBlk.new (w.alloc (.cells #[.string x.method, .string x.key, .int .i64 x.val, .string x.text] 39)) 34 zReply
  rwa [World.size_alloc] at this)
 obtain ⟨S1, a1, n1, cp1, -, -, -, -, c0, c1, c2, c3, c4, c5, hf, -, -⟩ := h.cells
 clear h hx l1 l2 l3 l4 l5 l6 l7 l8 l9 c3 c5 c0
 unfold callV
 go_enter Tryz.func95, Tryz.ntmps95
 go_upto_region 1 with fail
 go_cut [20] (fun s20 wx => s20 = .bool (p.core.broken && (!decide (x.method = mHeal) && !decide (x.method = mTell))) ∧ wx = ((w.alloc (.cells #[.string x.method, .string x.key, .int .i64 x.val, .string x.text] 39)).alloc (.cells zReply 34)))
 case first =>
  cases hb : p.core.broken with
  | false =>
   rw [hb] at c2
   go_wp2_with fail
   go_meet
   case rel => exact ⟨by rw [hb]; rfl, rfl⟩
  | true =>
   rw [hb] at c2
   by_cases h1 : x.method = mHeal
   ·have h1' : x.method.toList = [72, 101, 97, 108] := by rw [h1]; exact LI.out.2.2.2.2.2.2.2.2
    have H1 := Lib.hid h1
    clear h1
    go_wp2_with fail
    go_meet
    case rel => exact ⟨by rw [hb, H1.out]; rfl, rfl⟩
   ·have h1' := meth_no LI.out.2.2.2.2.2.2.2.2 h1
    by_cases h2 : x.method = mTell
    ·have h2' : x.method.toList = [84, 101, 108, 108] := by rw [h2]; exact LI.out.2.2.2.2.1
     have H2 := Lib.hid h2
     clear h1 h2 h1'
     go_wp2_with fail
     go_meet
     case rel => exact ⟨by rw [hb, H2.out]; rfl, rfl⟩
    ·have h2' := meth_no LI.out.2.2.2.2.1 h2
     have H1 := Lib.hid h1
     have H2 := Lib.hid h2
     clear h1 h2
     go_wp2_with fail
     go_meet
     case rel => exact ⟨by rw [hb, decide_eq_false H1.out, decide_eq_false H2.out]; rfl, rfl⟩
 case rest =>
 obtain ⟨rfl, hwc⟩ := hcut
 rw [← hwc] at HW HXB HR
 clear hwc
 have HS := Lib.hid ((St.start H.out).below HW.out)
 obtain ⟨S1', a1', n1', cp1', rfl, hn1', -, -, c0', c1', c2', c3', c4', c5', hf', hR1', hap'⟩ := HS.out.pb.cells
 clear hn1'
 have x0 : wc.cell? ⟨w.heap.size, 0, none⟩ = some (.string x.method) := by rw [HXB.out.cell]; rfl
 have x1 : wc.cell? ⟨w.heap.size, 1, none⟩ = some (.string x.key) := by rw [HXB.out.cell]; rfl
 have x2 : wc.cell? ⟨w.heap.size, 2, none⟩ = some (.int .i64 x.val) := by rw [HXB.out.cell]; rfl
 have x3 : wc.cell? ⟨w.heap.size, 3, none⟩ = some (.string x.text) := by rw [HXB.out.cell]; rfl
 have hRE := HR.out; obtain ⟨rz0, rz1, rz2, rz3, rz4, rzf⟩ := rzs (w := wc) (b := w.heap.size + 1) hRE
 by_cases hbr : p.core.broken = true ∧ x.method ≠ mHeal ∧ x.method ≠ mTell
 ·have hq : (p.core.broken && (!decide (x.method = mHeal) && !decide (x.method = mTell))) = true := by simp [hbr.1, hbr.2.1, hbr.2.2]
  have HB := Lib.hid hbr
  clear hbr
  rw [hq]
  go_wp2
  obtain ⟨q1, q2⟩ := done_reply HS.out H.out HR.out (by omega) hkr (rep 3 0 0 0)
  have e : onCore p (doesD p.core x) = (p, rep 3 0 0 0) := by unfold onCore doesD; rw [if_pos HB.out]
  rw [e]
  refine bodyPost_ret (results_blk rfl _ _ _ rfl q1 Tryz.underlying34 rfl (by kernel_rfl)) rfl q2
 have hq : (p.core.broken && (!decide (x.method = mHeal) && !decide (x.method = mTell))) = false := by
  cases h1 : p.core.broken with
  | false => rfl
  | true =>
   by_cases h2 : x.method = mHeal
   ·simp [h2]
   ·by_cases h3 : x.method = mTell
    ·simp [h3]
    ·exact absurd ⟨h1, h2, h3⟩ hbr
 have HB := Lib.hid hbr
 have HP := Lib.hid m_all
 clear hbr
 rw [hq]
 clear hq c1 c2 c4 hf
 have hkg : w.heap.size + 1 ≠ g := by omega
 have kg := HS.out.pb.kg
 by_cases hStart : x.method = mStart
 ·have P1 := HS.out.pb.setOn true
  have P2 := HS.out.pb.setOn false
  have hM' : x.method.toList = [83, 116, 97, 114, 116] := by rw [hStart]; exact LI.out.1
  have HM := Lib.hid hStart
  clear hStart
  cases hon : p.core.on with
  | true =>
   rw [hon] at c1'
   clear P1
   have A1 := HS.out.put (a := ⟨g, 1, none⟩) kg P2
   have A2 := Lib.hid (A1.put (a := ⟨g, 2, none⟩) kg (A1.pb.setBroken true))
   have HR2 := Lib.hid ((HR.out.far (p := ⟨g, 1, none⟩) hkg (.bool false)).far (p := ⟨g, 2, none⟩) hkg (.bool true))
   clear A1 P2
   go_wp2
   obtain ⟨q1, q2⟩ := done_reply A2.out H.out HR2.out (by omega) hkr (rep 3 0 0 0)
   have e : onCore p (doesD p.core x) = (⟨⟨p.core.kind, false, true, p.core.cells, p.core.count⟩, p.layers⟩, rep 3 0 0 0) := by unfold onCore doesD; rw [if_neg HB.out, if_pos HM.out, if_pos hon]
   rw [e]
   refine bodyPost_ret (results_blk rfl _ _ _ rfl q1 Tryz.underlying34 rfl (by kernel_rfl)) rfl q2
  | false =>
   rw [hon] at c1'
   clear P2
   have A1 := Lib.hid (HS.out.put (a := ⟨g, 1, none⟩) kg P1)
   have HR1 := Lib.hid (HR.out.far (p := ⟨g, 1, none⟩) hkg (.bool true))
   have HC := Lib.hid (w_countUp P1 p.core.count H.out.ct)
   clear P1
   go_wp2_with fail
   refine HC.out.mono ?_
   rintro e w5 ⟨rfl, hb5, hr5⟩
   have A5 := A1.out.below hb5
   have HR5 := Lib.hid (HR1.out.below hb5 HR1.out.lt)
   obtain ⟨S1u, au, nu, cpu, -, -, -, -, d0, d1, d2, d3, d4, d5, hfu, -, -⟩ := A5.pb.cells
   have A6 := Lib.hid (A5.put (a := ⟨g, 4, none⟩) kg (A5.pb.setCount (up3 p.core.count) hr5))
   have HR6 := Lib.hid (HR5.out.far (p := ⟨g, 4, none⟩) hkg (.int .i64 (up3 p.core.count)))
   clear A5 hb5
   have hRE := HR6.out; obtain ⟨rz0, rz1, rz2, rz3, rz4, rzf⟩ := rzs (w := (w5.setCell ⟨g, 4, none⟩ (.int .i64 (up3 p.core.count)))) (b := w.heap.size + 1) hRE
   go_wp2
   obtain ⟨q1, q2⟩ := done_reply A6.out H.out HR6.out (by omega) hkr (rep 0 0 0 0)
   have e : onCore p (doesD p.core x) = (⟨⟨p.core.kind, true, p.core.broken, p.core.cells, up3 p.core.count⟩, p.layers⟩, rep 0 0 0 0) := by unfold onCore doesD; rw [if_neg HB.out, if_pos HM.out, if_neg (by simp [hon])]
   rw [e]
   refine bodyPost_ret (results_blk rfl _ _ _ rfl q1 Tryz.underlying34 rfl (by kernel_rfl)) rfl q2
 have hStart' := meth_no LI.out.1 hStart
 have NStart := Lib.hid hStart
 clear hStart
 by_cases hStop : x.method = mStop
 ·have P2 := HS.out.pb.setOn false
  have hM' : x.method.toList = [83, 116, 111, 112] := by rw [hStop]; exact LI.out.2.1
  have HM := Lib.hid hStop
  clear hStop
  cases hon : p.core.on with
  | true =>
   rw [hon] at c1'
   have A1 := Lib.hid (HS.out.put (a := ⟨g, 1, none⟩) kg P2)
   have HR1 := Lib.hid (HR.out.far (p := ⟨g, 1, none⟩) hkg (.bool false))
   clear P2
   go_wp2
   obtain ⟨q1, q2⟩ := done_reply A1.out H.out HR1.out (by omega) hkr (rep 0 0 0 0)
   have e : onCore p (doesD p.core x) = (⟨⟨p.core.kind, false, p.core.broken, p.core.cells, p.core.count⟩, p.layers⟩, rep 0 0 0 0) := by unfold onCore doesD; rw [if_neg HB.out, if_neg NStart.out, if_pos HM.out, if_neg (by simp [hon])]
   rw [e]
   refine bodyPost_ret (results_blk rfl _ _ _ rfl q1 Tryz.underlying34 rfl (by kernel_rfl)) rfl q2
  | false =>
   rw [hon] at c1'
   clear P2
   go_wp2
   obtain ⟨q1, q2⟩ := done_reply HS.out H.out HR.out (by omega) hkr (rep 2 0 0 0)
   have e : onCore p (doesD p.core x) = (p, rep 2 0 0 0) := by unfold onCore doesD; rw [if_neg HB.out, if_neg NStart.out, if_pos HM.out, if_pos hon]
   rw [e]
   refine bodyPost_ret (results_blk rfl _ _ _ rfl q1 Tryz.underlying34 rfl (by kernel_rfl)) rfl q2
 have hStop' := meth_no LI.out.2.1 hStop
 have NStop := Lib.hid hStop
 clear hStop
 by_cases hGet : x.method = mGet
 ·have hM' : x.method.toList = [71, 101, 116] := by rw [hGet]; exact LI.out.2.2.1
  have HM := Lib.hid hGet
  clear hGet
  have HC := Lib.hid (hKO _ _ _ _ _ _ HS.out.pb HX.out)
  unfold callV at HC
  go_wp2_with fail
  refine HC.out.mono ?_
  rintro e w5 ⟨rfl, hp5, hf5⟩
  have A5 := Lib.hid (HS.out.call hp5 hf5)
  have HR5 := Lib.hid (HR.out.frk hf5 hkr)
  have hk5 : ¬ Gr K wc w5 (w.heap.size + 1) := by rintro (h | h); exact hkr h; have := HR.out.lt; omega
  clear hp5 hf5
  have hRE := HR5.out; obtain ⟨rz0, rz1, rz2, rz3, rz4, rzf⟩ := rzs (w := w5) (b := w.heap.size + 1) hRE
  unfold replyV
  go_wp2
  obtain ⟨q1, q2⟩ := done_reply A5.out H.out HR5.out (by omega) hk5 (onCore p (keepD p.core x)).2
  have e : onCore p (doesD p.core x) = ((onCore p (keepD p.core x)).1, (onCore p (keepD p.core x)).2) := by unfold onCore doesD; rw [if_neg HB.out, if_neg NStart.out, if_neg NStop.out, if_pos (isKeep_iff.2 (.inl HM.out))]
  rw [e]
  refine bodyPost_ret (results_blk rfl _ _ _ rfl q1 Tryz.underlying34 rfl (by kernel_rfl)) rfl q2
 have hGet' := meth_no LI.out.2.2.1 hGet
 have NGet := Lib.hid hGet
 clear hGet
 by_cases hPut : x.method = mPut
 ·have hM' : x.method.toList = [80, 117, 116] := by rw [hPut]; exact LI.out.2.2.2.1
  have HM := Lib.hid hPut
  clear hPut
  have HC := Lib.hid (hKO _ _ _ _ _ _ HS.out.pb HX.out)
  unfold callV at HC
  go_wp2_with fail
  refine HC.out.mono ?_
  rintro e w5 ⟨rfl, hp5, hf5⟩
  have A5 := Lib.hid (HS.out.call hp5 hf5)
  have HR5 := Lib.hid (HR.out.frk hf5 hkr)
  have hk5 : ¬ Gr K wc w5 (w.heap.size + 1) := by rintro (h | h); exact hkr h; have := HR.out.lt; omega
  clear hp5 hf5
  have hRE := HR5.out; obtain ⟨rz0, rz1, rz2, rz3, rz4, rzf⟩ := rzs (w := w5) (b := w.heap.size + 1) hRE
  unfold replyV
  go_wp2
  obtain ⟨q1, q2⟩ := done_reply A5.out H.out HR5.out (by omega) hk5 (onCore p (keepD p.core x)).2
  have e : onCore p (doesD p.core x) = ((onCore p (keepD p.core x)).1, (onCore p (keepD p.core x)).2) := by unfold onCore doesD; rw [if_neg HB.out, if_neg NStart.out, if_neg NStop.out, if_pos (isKeep_iff.2 (.inr HM.out))]
  rw [e]
  refine bodyPost_ret (results_blk rfl _ _ _ rfl q1 Tryz.underlying34 rfl (by kernel_rfl)) rfl q2
 have hPut' := meth_no LI.out.2.2.2.1 hPut
 have NPut := Lib.hid hPut
 clear hPut
 by_cases hTell : x.method = mTell
 ·have hM' : x.method.toList = [84, 101, 108, 108] := by rw [hTell]; exact LI.out.2.2.2.2.1
  have HM := Lib.hid hTell
  clear hTell
  go_wp2
  obtain ⟨q1, q2⟩ := done_reply HS.out H.out HR.out (by omega) hkr (rep 0 p.core.count 0 0)
  have e : onCore p (doesD p.core x) = (p, rep 0 p.core.count 0 0) := by unfold onCore doesD; rw [if_neg HB.out, if_neg NStart.out, if_neg NStop.out, if_neg (fun h => by rcases isKeep_iff.1 h with h | h; exact NGet.out h; exact NPut.out h), if_pos HM.out]
  rw [e]
  refine bodyPost_ret (results_blk rfl _ _ _ rfl q1 Tryz.underlying34 rfl (by kernel_rfl)) rfl q2
 have hTell' := meth_no LI.out.2.2.2.2.1 hTell
 have NTell := Lib.hid hTell
 clear hTell
 by_cases hHear : x.method = mHear
 ·have hM' : x.method.toList = [72, 101, 97, 114] := by rw [hHear]; exact LI.out.2.2.2.2.2.1
  have HM := Lib.hid hHear
  clear hHear
  have HC := Lib.hid (w_countUp HS.out.pb p.core.count H.out.ct)
  go_wp2_with fail
  refine HC.out.mono ?_
  rintro e w5 ⟨rfl, hb5, hr5⟩
  have A5 := HS.out.below hb5
  have HR5 := Lib.hid (HR.out.below hb5 HR.out.lt)
  obtain ⟨S1u, au, nu, cpu, -, -, -, -, d0, d1, d2, d3, d4, d5, hfu, -, -⟩ := A5.pb.cells
  have A6 := A5.put (a := ⟨g, 4, none⟩) kg (A5.pb.setCount (up3 p.core.count) hr5)
  have HR6 := Lib.hid (HR5.out.far (p := ⟨g, 4, none⟩) hkg (.int .i64 (up3 p.core.count)))
  have y2 : w5.cell? ⟨w.heap.size, 2, none⟩ = some (.int .i64 x.val) := cell_keep hb5 x2
  have y2' : (w5.setCell ⟨g, 4, none⟩ (.int .i64 (up3 p.core.count))).cell? ⟨w.heap.size, 2, none⟩ = some (.int .i64 x.val) := by
   rw [World.cell?_of_block (w := w5) (w' := w5.setCell ⟨g, 4, none⟩ (.int .i64 (up3 p.core.count))) (a := ⟨w.heap.size, 2, none⟩) (heap_set_ne (by intro e; have e : w.heap.size = g := e; omega))]; exact y2
  obtain ⟨S1t, at1, nt1, cpt, -, -, -, -, t0, t1, t2, t3, t4, t5, hft, -, -⟩ := A6.pb.cells
  have A6' := Lib.hid A6
  have Aon := fun b => A6.put (a := ⟨g, 1, none⟩) kg (A6.pb.setOn b)
  have HAon := Lib.hid Aon
  clear A5 A6 Aon hb5 y2
  by_cases hv0 : x.val = 0
  ·have HR7 := Lib.hid (HR6.out.far (p := ⟨g, 1, none⟩) hkg (.bool false))
   obtain ⟨S1v, av, nv, cpv, -, -, -, -, u0', u1', u2', u3', u4', u5', hfv, -, -⟩ := (HAon.out false).pb.cells
   have hRE := HR7.out; obtain ⟨rz0, rz1, rz2, rz3, rz4, rzf⟩ := rzs (w := ((w5.setCell ⟨g, 4, none⟩ (.int .i64 (up3 p.core.count))).setCell ⟨g, 1, none⟩ (.bool false))) (b := w.heap.size + 1) hRE
   go_wp2
   obtain ⟨q1, q2⟩ := done_reply (HAon.out false) H.out HR7.out (by omega) hkr (rep 0 (up3 p.core.count) 0 0)
   have e : onCore p (doesD p.core x) = (⟨⟨p.core.kind, false, p.core.broken, p.core.cells, up3 p.core.count⟩, p.layers⟩, rep 0 (up3 p.core.count) 0 0) := by unfold onCore doesD; rw [if_neg HB.out, if_neg NStart.out, if_neg NStop.out, if_neg (fun h => by rcases isKeep_iff.1 h with h | h; exact NGet.out h; exact NPut.out h), if_neg NTell.out, if_pos HM.out, if_pos hv0]
   rw [e]
   refine bodyPost_ret (results_blk rfl _ _ _ rfl q1 Tryz.underlying34 rfl (by kernel_rfl)) rfl q2
  by_cases hv1 : x.val = 1
  ·have HR7 := Lib.hid (HR6.out.far (p := ⟨g, 1, none⟩) hkg (.bool true))
   obtain ⟨S1v, av, nv, cpv, -, -, -, -, u0', u1', u2', u3', u4', u5', hfv, -, -⟩ := (HAon.out true).pb.cells
   have hRE := HR7.out; obtain ⟨rz0, rz1, rz2, rz3, rz4, rzf⟩ := rzs (w := ((w5.setCell ⟨g, 4, none⟩ (.int .i64 (up3 p.core.count))).setCell ⟨g, 1, none⟩ (.bool true))) (b := w.heap.size + 1) hRE
   go_wp2
   obtain ⟨q1, q2⟩ := done_reply (HAon.out true) H.out HR7.out (by omega) hkr (rep 0 (up3 p.core.count) 0 0)
   have e : onCore p (doesD p.core x) = (⟨⟨p.core.kind, true, p.core.broken, p.core.cells, up3 p.core.count⟩, p.layers⟩, rep 0 (up3 p.core.count) 0 0) := by unfold onCore doesD; rw [if_neg HB.out, if_neg NStart.out, if_neg NStop.out, if_neg (fun h => by rcases isKeep_iff.1 h with h | h; exact NGet.out h; exact NPut.out h), if_neg NTell.out, if_pos HM.out, if_neg hv0, if_pos hv1]
   rw [e]
   refine bodyPost_ret (results_blk rfl _ _ _ rfl q1 Tryz.underlying34 rfl (by kernel_rfl)) rfl q2
  ·have hRE := HR6.out; obtain ⟨rz0, rz1, rz2, rz3, rz4, rzf⟩ := rzs (w := (w5.setCell ⟨g, 4, none⟩ (.int .i64 (up3 p.core.count)))) (b := w.heap.size + 1) hRE
   go_wp2
   obtain ⟨q1, q2⟩ := done_reply A6'.out H.out HR6.out (by omega) hkr (rep 0 (up3 p.core.count) 0 0)
   have e : onCore p (doesD p.core x) = (⟨⟨p.core.kind, p.core.on, p.core.broken, p.core.cells, up3 p.core.count⟩, p.layers⟩, rep 0 (up3 p.core.count) 0 0) := by unfold onCore doesD; rw [if_neg HB.out, if_neg NStart.out, if_neg NStop.out, if_neg (fun h => by rcases isKeep_iff.1 h with h | h; exact NGet.out h; exact NPut.out h), if_neg NTell.out, if_pos HM.out, if_neg hv0, if_neg hv1]
   rw [e]
   refine bodyPost_ret (results_blk rfl _ _ _ rfl q1 Tryz.underlying34 rfl (by kernel_rfl)) rfl q2
 have hHear' := meth_no LI.out.2.2.2.2.2.1 hHear
 have NHear := Lib.hid hHear
 clear hHear
 by_cases hSave : x.method = mSave
 ·have hM' : x.method.toList = [83, 97, 118, 101] := by rw [hSave]; exact LI.out.2.2.2.2.2.2.2.1
  have HM := Lib.hid hSave
  clear hSave
  have HC := Lib.hid (w_FormatCells HS.out.pb hR1')
  obtain ⟨tx, htx⟩ : ∃ t, t = fmtC p.core.cells := ⟨_, rfl⟩
  rw [← htx] at HC
  have HTX := Lib.hid htx
  clear htx
  go_wp2_with fail
  refine HC.out.mono ?_
  rintro e w5 ⟨rfl, hb5⟩
  have A5 := Lib.hid (HS.out.below hb5)
  have HR5 := Lib.hid (HR.out.below hb5 HR.out.lt)
  clear hb5
  have hRE := HR5.out; obtain ⟨rz0, rz1, rz2, rz3, rz4, rzf⟩ := rzs (w := w5) (b := w.heap.size + 1) hRE
  go_wp2
  obtain ⟨q1, q2⟩ := done_reply A5.out H.out HR5.out (by omega) hkr (⟨0, 0, tx, 0, 0⟩)
  have e : onCore p (doesD p.core x) = (p, ⟨0, 0, tx, 0, 0⟩) := by rw [HTX.out]; unfold onCore doesD; rw [if_neg HB.out, if_neg NStart.out, if_neg NStop.out, if_neg (fun h => by rcases isKeep_iff.1 h with h | h; exact NGet.out h; exact NPut.out h), if_neg NTell.out, if_neg NHear.out, if_pos HM.out]
  rw [e]
  refine bodyPost_ret (results_blk rfl _ _ _ rfl q1 Tryz.underlying34 rfl (by kernel_rfl)) rfl q2
 have hSave' := meth_no LI.out.2.2.2.2.2.2.2.1 hSave
 have NSave := Lib.hid hSave
 clear hSave
 by_cases hLoad : x.method = mLoad
 ·have hM' : x.method.toList = [76, 111, 97, 100] := by rw [hLoad]; exact LI.out.2.2.2.2.2.2.1
  have HM := Lib.hid hLoad
  clear hLoad
  have HC := Lib.hid (w_ParseCells HS.out.pb x.text HX.out.text)
  go_wp2_with fail
  refine HC.out.mono ?_
  rintro e w5 ⟨S1n, an, nn, cpn, rfl, rfl, hnn, hb5, hrow, hnew⟩
  have A5 := HS.out.below hb5
  have HR5 := Lib.hid (HR.out.below hb5 HR.out.lt)
  have hgr : ∀ b, Gr K wc w5 b → NG ≤ b ∧ b < w5.heap.size := by
   rintro b (hb | hb)
   ·exact A5.pb.kb b hb
   ·exact ⟨Nat.le_trans HS.out.pb.gi.2 hb.1, hb.2⟩
  have A6 : St K w g S2 (Gr K wc w5) p w5 := ⟨A5.pb.mono (fun _ h => .inl h) hgr, A5.nb, fun b hb => by
   rcases hb with hb | hb
   ·exact .inl hb
   ·exact .inr ⟨Nat.le_trans HS.out.fr.size hb.1, hb.2⟩, A5.fr⟩
  have P7 := A6.pb.setCells hrow (fun b hb hs2 => by
   have h1 := hnew b hb
   have h2 := (HS.out.pb.ly.out hs2).2.2
   omega)
  have A7 := Lib.hid (A6.put (a := ⟨g, 3, none⟩) A6.pb.kg P7)
  have hk5 : ¬ Gr K wc w5 (w.heap.size + 1) := by rintro (h | h); exact hkr h; have := HR.out.lt; omega
  obtain ⟨S1u, au, nu, cpu, -, -, -, -, d0, d1, d2, d3, d4, d5, hfu, -, -⟩ := A6.pb.cells
  have HA6 := Lib.hid A6
  have HNN := Lib.hid hnn
  clear A5 A6 hgr P7 hrow hnew hb5 hnn
  cases hok : (parC x.text).2 with
  | true =>
   have HR7 := Lib.hid (HR5.out.far (p := ⟨g, 3, none⟩) hkg (.slice an nn cpn))
   have hRE := HR7.out; obtain ⟨rz0, rz1, rz2, rz3, rz4, rzf⟩ := rzs (w := (w5.setCell ⟨g, 3, none⟩ (.slice an nn cpn))) (b := w.heap.size + 1) hRE
   go_wp2
   obtain ⟨q1, q2⟩ := done_reply A7.out H.out HR7.out (by omega) hk5 (rep 0 (parC x.text).1.length 0 0)
   have e : onCore p (doesD p.core x) = (⟨⟨p.core.kind, p.core.on, p.core.broken, (parC x.text).1, p.core.count⟩, p.layers⟩, rep 0 (parC x.text).1.length 0 0) := by unfold onCore doesD; rw [if_neg HB.out, if_neg NStart.out, if_neg NStop.out, if_neg (fun h => by rcases isKeep_iff.1 h with h | h; exact NGet.out h; exact NPut.out h), if_neg NTell.out, if_neg NHear.out, if_neg NSave.out, if_pos HM.out, if_pos hok]
   rw [e]
   rw [← HNN.out] at q1 q2 ⊢
   refine bodyPost_ret (results_blk rfl _ _ _ rfl q1 Tryz.underlying34 rfl (by kernel_rfl)) rfl q2
  | false =>
   have hRE := HR5.out; obtain ⟨rz0, rz1, rz2, rz3, rz4, rzf⟩ := rzs (w := w5) (b := w.heap.size + 1) hRE
   go_wp2
   obtain ⟨q1, q2⟩ := done_reply HA6.out H.out HR5.out (by omega) hk5 (rep 6 0 0 0)
   have e : onCore p (doesD p.core x) = (p, rep 6 0 0 0) := by unfold onCore doesD; rw [if_neg HB.out, if_neg NStart.out, if_neg NStop.out, if_neg (fun h => by rcases isKeep_iff.1 h with h | h; exact NGet.out h; exact NPut.out h), if_neg NTell.out, if_neg NHear.out, if_neg NSave.out, if_pos HM.out, if_neg (by simp [hok])]
   rw [e]
   refine bodyPost_ret (results_blk rfl _ _ _ rfl q1 Tryz.underlying34 rfl (by kernel_rfl)) rfl q2
 have hLoad' := meth_no LI.out.2.2.2.2.2.2.1 hLoad
 have NLoad := Lib.hid hLoad
 clear hLoad
 by_cases hHeal : x.method = mHeal
 ·have P2 := HS.out.pb.setOn false
  have hM' : x.method.toList = [72, 101, 97, 108] := by rw [hHeal]; exact LI.out.2.2.2.2.2.2.2.2
  have HM := Lib.hid hHeal
  clear hHeal
  have A1 := HS.out.put (a := ⟨g, 1, none⟩) kg P2
  have A2 := Lib.hid (A1.put (a := ⟨g, 2, none⟩) kg (A1.pb.setBroken false))
  have HR2 := Lib.hid ((HR.out.far (p := ⟨g, 1, none⟩) hkg (.bool false)).far (p := ⟨g, 2, none⟩) hkg (.bool false))
  clear A1 P2
  go_wp2
  obtain ⟨q1, q2⟩ := done_reply A2.out H.out HR2.out (by omega) hkr (rep 0 0 0 0)
  have e : onCore p (doesD p.core x) = (⟨⟨p.core.kind, false, false, p.core.cells, p.core.count⟩, p.layers⟩, rep 0 0 0 0) := by unfold onCore doesD; rw [if_neg HB.out, if_neg NStart.out, if_neg NStop.out, if_neg (fun h => by rcases isKeep_iff.1 h with h | h; exact NGet.out h; exact NPut.out h), if_neg NTell.out, if_neg NHear.out, if_neg NSave.out, if_neg NLoad.out, if_pos HM.out]
  rw [e]
  refine bodyPost_ret (results_blk rfl _ _ _ rfl q1 Tryz.underlying34 rfl (by kernel_rfl)) rfl q2
 have hHeal' := meth_no LI.out.2.2.2.2.2.2.2.2 hHeal
 have NHeal := Lib.hid hHeal
 clear hHeal
 go_wp2
 obtain ⟨q1, q2⟩ := done_reply HS.out H.out HR.out (by omega) hkr (rep 0 0 0 0)
 have e : onCore p (doesD p.core x) = (p, rep 0 0 0 0) := by unfold onCore doesD; rw [if_neg HB.out, if_neg NStart.out, if_neg NStop.out, if_neg (fun h => by rcases isKeep_iff.1 h with h | h; exact NGet.out h; exact NPut.out h), if_neg NTell.out, if_neg NHear.out, if_neg NSave.out, if_neg NLoad.out, if_neg NHeal.out]
 rw [e]
 refine bodyPost_ret (results_blk rfl _ _ _ rfl q1 Tryz.underlying34 rfl (by kernel_rfl)) rfl q2
end Go.Proofs.YtbgcaneflfdddaaGreatDoor
