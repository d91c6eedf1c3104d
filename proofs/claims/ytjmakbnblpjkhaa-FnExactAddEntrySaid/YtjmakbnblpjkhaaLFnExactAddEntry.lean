/- FnExactAddEntry holds for every input: the law walked over the contracts of what it calls, with marks written into the arguments' copies and into the answer, and the row. No condition. -/
import Derived.Test.YtjmakbnblpjkhaaD15
import Derived.Test.YtjmakbnblpjkhaaD11
namespace Go.Proofs.Ytjmakbnblpjkhaa.lawFnExactAddEntry
open Go.ChangeShapes Go.WideShapes Go.ChangeAt Go.RowKit Go
set_option linter.unusedVariables false
set_option linter.unusedSimpArgs false
set_option maxRecDepth 100000
def zEnt : Array Value := #[.string ⟨#[]⟩, .slice none 0 0, .int .i64 0, .int .i64 0, .slice none 0 0]
theorem iz_E : (Try.prog.info? 42).bind (·.zero) = some (.agg zEnt) := by kernel_rfl
theorem is_L : (Try.prog.info? 36).map (·.size) = some 5 := by kernel_rfl
theorem one_E (s : ByteArray) (a b : Option Addr) (n m c d : Nat) (x y : Int) : ∀ u ∈ (#[Value.string s, .slice a n c, .int .i64 x, .int .i64 y, .slice b m d] : Array Value).toList, u.oneCell' = true := fun u hu => by
 simp at hu
 rcases hu with rfl | rfl | rfl | rfl | rfl <;> rfl
theorem te_lit {e : Entry} (s1 : Sm.sm e) {w : World} {v : Value} (h : R w (fun _ => False) (enc e) v) : Calls Try.prog 14 #[v] w fun x w' => ∃ b m d f q t, x = .returned (.agg #[.string e.name, .slice b m d, .int .i64 e.ver.maj, .int .i64 e.ver.min, .slice f q t]) ∧ R w' (NF w' w.heap.size) (enc e) (.agg #[.string e.name, .slice b m d, .int .i64 e.ver.maj, .int .i64 e.ver.min, .slice f q t]) ∧ Below w.heap.size w w' := by
 refine (w_toEntry e s1 h).mono ?_
 rintro x w' ⟨y0, y1, y2, y3, y4, rfl, hr, hb⟩
 have hr' : R w' (NF w' w.heap.size) (enc e) (.agg #[y0, y1, y2, y3, y4]) := ⟨_, rfl, hr⟩
 obtain ⟨b, m, d, f, q, t, h1, -⟩ := entry_lit hr'
 rw [h1] at hr' ⊢
 exact ⟨b, m, d, f, q, t, rfl, hr', hb⟩
theorem sp_lit {l : List Entry} {e : Entry} (hl : l.length ≤ 1048576) (hf : ∀ x ∈ l, x.fit) (he : e.fit) {w : World} {x y : Value} (h : R w (fun _ => False) (encS l) x) (h' : R w (fun _ => False) (enc e) y) : Calls Try.prog 13 #[x, y] w fun z w' => ∃ u, z = .returned (.tuple #[u, .bool (addOk l e)]) ∧ R w' (fun _ => False) (encS (addL l e)) u ∧ Below w.heap.size w w' := by
 refine (Fun.calls (.ofR (c_spec_AddEntry l e hl hf he)) (rdy0 w) (vs := [x, y]) ⟨_, _, rfl, h, _, [], rfl, h', rfl⟩).mono ?_
 rintro z w' ⟨v, rfl, ⟨cs, rfl, x0, _, hc, h0, x1, _, rfl, h1, hx⟩, hb⟩
 have hx : _ = [] := hx
 subst hx
 have hcs : cs = #[x0, x1] := by rw [← Array.toList_inj, hc]
 subst hcs
 have h1 : x1 = .bool (addOk l e) := h1
 subst h1
 exact ⟨x0, rfl, h0, hb⟩
theorem eq_lit {l : List Entry} {w : World} {x y : Value} (h : R w (fun _ => False) (encS l) x) (h' : R w (fun _ => False) (encS l) y) : Calls Try.prog 9 #[x, y] w fun e w' => e = .returned (.bool true) ∧ Below w.heap.size w w' := by
 refine (Fun.calls (c_laws_eqEntryS l l) (rdy0 w) (vs := [x, y]) ⟨_, _, rfl, h, _, [], rfl, h', rfl⟩).mono ?_
 rintro e w' ⟨u, rfl, hu, hb⟩
 have hu : u = .bool (decide (l = l)) := hu
 rw [hu]
 exact ⟨by simp, hb⟩
theorem eq1_lit {e : Entry} {w : World} {x y : Value} (h : R w (fun _ => False) (enc e) x) (h' : R w (fun _ => False) (enc e) y) : Calls Try.prog 16 #[x, y] w fun z w' => z = .returned (.bool true) ∧ Below w.heap.size w w' := by
 refine (Fun.calls (c_laws_eqEntry e e) (rdy0 w) (vs := [x, y]) ⟨_, _, rfl, h, _, [], rfl, h', rfl⟩).mono ?_
 rintro z w' ⟨u, rfl, hu, hb⟩
 have hu : u = .bool (decide (e = e)) := hu
 rw [hu]
 exact ⟨by simp, hb⟩
theorem he_lit {l : List Entry} (h1 : 1 + cntTo l l.length ≤ 1152921504606846970) (h2 : l.length ≤ 1152921504606846976) {w : World} {x : Value} (h : R w (fun _ => False) (encS (mixL 1 l l.length)) x) : Calls Try.prog 11 #[x, .int .i64 1] w fun e w' => e = .returned (.int .i64 ((1 + cntTo l l.length : Nat) : Int)) ∧ Below w.heap.size w w' := by
 refine (Fun.calls (c_heldEntryS l 1 h1 h2) (rdy0 w) (vs := [x, .int .i64 1]) ⟨_, _, rfl, h, _, [], rfl, int_ok (by omega) (by omega), rfl⟩).mono ?_
 rintro e w' ⟨u, rfl, hu, hb⟩
 rw [hu.1]
 exact ⟨rfl, hb⟩
set_option maxHeartbeats 8000000 in
theorem walk (l : List Entry) (e : Entry) (w : World) (v u : Value) (hv : R w (fun _ => False) (encS l) v) (hu : R w (fun _ => False) (enc e) u) :
  Calls Try.prog 4 #[v, u] w fun e w' => e = .returned (.bool true) ∧ Below w.heap.size w w' := by
 obtain ⟨a1, n1, c1, a4, n4, c4, rfl, hnm⟩ := entry_lit hu
 obtain ⟨_, ⟨m0, rfl, _, p0, q0⟩, hz⟩ := z_EntryS l 1048576 (by omega) (by omega)
 have hb0 : m0 < 0 ∨ 0 ≤ m0 := by omega
 have HZ1 : ∀ (w0 : World), R w0 (fun _ => False) (encS l) v → _ := fun w0 h => Fun.calls hz (rdy0 w0) (vs := [v, .int .i64 1048576]) ⟨_, _, rfl, h, _, [], rfl, int_ok (by omega) (by omega), rfl⟩
 have HV := R.over hv
 have HU := R.over hu
 refine calls_CW (E := [(0, v), (1, .agg #[.string e.name, .slice a1 n1 c1, .int .i64 e.ver.maj, .int .i64 e.ver.min, .slice a4 n4 c4])]) Try.func4 rfl Try.ntmps4 (by simp) (by simp) ?_
 refine CW.seq (CW.region ?_)
 refine WL.vv rfl rfl (r_box rfl rfl) (by decide) ?_
 refine WL.vv rfl rfl (r_assign rfl rfl) (by decide) ?_
 refine WL.nil (NX.next ?_)
 show CW _ Try.prog _ _ _ (w.alloc (.cells #[.string e.name, .slice a1 n1 c1, .int .i64 e.ver.maj, .int .i64 e.ver.min, .slice a4 n4 c4] 36))
 refine CW.sub (E' := [(0, v), (3, .pointer (some ⟨w.heap.size, 0, none⟩))]) ⟨rfl, rfl, trivial⟩ ?_
 have HB : Below w.heap.size w (w.alloc (.cells #[.string e.name, .slice a1 n1 c1, .int .i64 e.ver.maj, .int .i64 e.ver.min, .slice a4 n4 c4] 36)) := by go_grown
 have hp0 := p0
 clear p0
 have p0 := RBlk.new w 36 #[.string e.name, .slice a1 n1 c1, .int .i64 e.ver.maj, .int .i64 e.ver.min, .slice a4 n4 c4]
 generalize w.alloc (.cells #[.string e.name, .slice a1 n1 c1, .int .i64 e.ver.maj, .int .i64 e.ver.min, .slice a4 n4 c4] 36) = w0 at HB p0 ⊢
 replace HV := up_keep HV HB
 replace HU := up_keep HU HB
 have le0 := p0.lt
 clear hv hu
 refine CW.seq (CW.region ?_)
 refine WL.vv rfl rfl (r_assign rfl rfl) (by decide) ?_
 refine WL.nil (NX.next ?_)
 refine CW.sub (E' := [(0, v), (3, .pointer (some ⟨w.heap.size, 0, none⟩)), (5, .int .i64 1048576)]) ⟨rfl, rfl, rfl, trivial⟩ ?_
 refine CW.seq (CW.region ?_)
 refine WL.vv rfl rfl (r_move rfl rfl) (by decide) ?_
 refine WL.vv rfl rfl (r_move rfl rfl) (by decide) ?_
 refine WL.c rfl rfl (r_call (args := #[v, .int .i64 1048576]) (by kernel_rfl) rfl rfl rfl) (by decide) (HZ1 w0 HV.zero) ?_
 rintro _ w1 ⟨_, rfl, ⟨rfl, -⟩, hb1⟩
 have le_w1 := hb1.size
 replace HV := up_keep HV hb1
 replace HU := up_keep HU hb1
 replace p0 := p0.below hb1 p0.lt
 replace HB := bt HB hb1
 refine ⟨_, rfl, ?_⟩
 refine WL.vv rfl rfl (r_assign rfl rfl) (by decide) ?_
 refine WL.nil (NX.next ?_)
 refine CW.sub (E' := [(0, v), (3, .pointer (some ⟨w.heap.size, 0, none⟩)), (5, .int .i64 m0)]) ⟨rfl, rfl, rfl, trivial⟩ ?_
 rcases hb0 with hneg | hpos
 ·refine CW.seq (CW.seq (CW.region ?_))
  refine WL.vv rfl rfl (r_move rfl rfl) (by decide) ?_
  refine WL.vv rfl rfl (r_cmpB (b := true) rfl rfl rfl rfl (by simp [cmpI] <;> omega)) (by decide) ?_
  refine WL.nil (NX.next (CW.yes rfl (CW.seq (CW.region ?_))))
  refine WL.vv rfl rfl (r_assign rfl rfl) (by decide) ?_
  exact WL.nil (NX.next (CW.ret (NX.ret (NX.bodyT rfl rfl ⟨rfl, HB⟩))))
 have s0 := q0 (by omega)
 have hl20 : l.length ≤ 1048576 := (sm_list.1 s0).1
 have hfit := fit_of s0
 have hcnt := cnt_fit hfit (Nat.le_refl _)
 obtain ⟨_, ⟨m1, rfl, _, p1, q1⟩, hz2⟩ := z_Entry e m0 (by omega) (by omega)
 have hb1 : m1 < 0 ∨ 0 ≤ m1 := by omega
 have HZ2 : ∀ (w0 : World), R w0 (fun _ => False) (enc e) (.agg #[.string e.name, .slice a1 n1 c1, .int .i64 e.ver.maj, .int .i64 e.ver.min, .slice a4 n4 c4]) → _ := fun w0 h => Fun.calls hz2 (rdy0 w0) (vs := [.agg #[.string e.name, .slice a1 n1 c1, .int .i64 e.ver.maj, .int .i64 e.ver.min, .slice a4 n4 c4], .int .i64 m0]) ⟨_, _, rfl, h, _, [], rfl, int_ok (by omega) (by omega), rfl⟩
 refine CW.seq (CW.seq (CW.region ?_))
 refine WL.vv rfl rfl (r_move rfl rfl) (by decide) ?_
 refine WL.vv rfl rfl (r_cmpB (b := false) rfl rfl rfl rfl (by simp [cmpI] <;> omega)) (by decide) ?_
 refine WL.nil (NX.next (CW.no rfl (CW.skip (NX.next ?_))))
 refine CW.sub (E' := [(0, v), (3, .pointer (some ⟨w.heap.size, 0, none⟩)), (5, .int .i64 m0)]) ⟨rfl, rfl, rfl, trivial⟩ ?_
 refine CW.seq (CW.region ?_)
 refine WL.vv rfl rfl (r_loadS rfl rfl Try.underlying36 rfl p0 is_L) (by decide) ?_
 refine WL.vv rfl rfl (r_move rfl rfl) (by decide) ?_
 refine WL.c rfl rfl (r_call (args := #[.agg #[.string e.name, .slice a1 n1 c1, .int .i64 e.ver.maj, .int .i64 e.ver.min, .slice a4 n4 c4], .int .i64 m0]) (by kernel_rfl) rfl rfl rfl) (by decide) (HZ2 w1 HU.zero) ?_
 rintro _ w2 ⟨_, rfl, ⟨rfl, -⟩, hb2⟩
 have le_w2 := hb2.size
 replace HV := up_keep HV hb2
 replace HU := up_keep HU hb2
 replace p0 := p0.below hb2 p0.lt
 replace HB := bt HB hb2
 refine ⟨_, rfl, ?_⟩
 refine WL.vv rfl rfl (r_assign rfl rfl) (by decide) ?_
 refine WL.nil (NX.next ?_)
 refine CW.sub (E' := [(0, v), (3, .pointer (some ⟨w.heap.size, 0, none⟩)), (5, .int .i64 m1)]) ⟨rfl, rfl, rfl, trivial⟩ ?_
 rcases hb1 with hneg | hpos
 ·refine CW.seq (CW.seq (CW.region ?_))
  refine WL.vv rfl rfl (r_move rfl rfl) (by decide) ?_
  refine WL.vv rfl rfl (r_cmpB (b := true) rfl rfl rfl rfl (by simp [cmpI] <;> omega)) (by decide) ?_
  refine WL.nil (NX.next (CW.yes rfl (CW.seq (CW.region ?_))))
  refine WL.vv rfl rfl (r_assign rfl rfl) (by decide) ?_
  exact WL.nil (NX.next (CW.ret (NX.ret (NX.bodyT rfl rfl ⟨rfl, HB⟩))))
 have s1 := q1 (by omega)
 have hef : e.fit := ⟨(sm_list.1 s1.2.1).1, (sm_list.1 s1.2.2).1⟩
 have hac := cnt_fit (l := addL l e) (fun x hx => (addL_mem hx).elim (fun h => hfit x h) fun h => by rw [h]; exact hef) (Nat.le_refl _)
 have hal : (addL l e).length ≤ 1048577 := Nat.le_trans addL_len (by omega)
 generalize hans : addL l e = ans at hac hal
 obtain ⟨ok, hok⟩ : ∃ ok, addOk l e = ok := ⟨_, rfl⟩
 have HTo : ∀ (w0 : World), R w0 (fun _ => False) (encS l) v → Calls Try.prog 7 #[v] w0 fun e w' => ∃ v', e = .returned v' ∧ R w' (NF w' w0.heap.size) (encS l) v' ∧ Below w0.heap.size w0 w' := fun w0 h => f_toEntryS l (sm_list.1 s0).1 (sm_list.1 s0).2 w0 v h
 have HTe : ∀ (w0 : World), R w0 (fun _ => False) (enc e) (.agg #[.string e.name, .slice a1 n1 c1, .int .i64 e.ver.maj, .int .i64 e.ver.min, .slice a4 n4 c4]) → Calls Try.prog 14 #[.agg #[.string e.name, .slice a1 n1 c1, .int .i64 e.ver.maj, .int .i64 e.ver.min, .slice a4 n4 c4]] w0 fun x w' => ∃ b m d f q t, x = .returned (.agg #[.string e.name, .slice b m d, .int .i64 e.ver.maj, .int .i64 e.ver.min, .slice f q t]) ∧ R w' (NF w' w0.heap.size) (enc e) (.agg #[.string e.name, .slice b m d, .int .i64 e.ver.maj, .int .i64 e.ver.min, .slice f q t]) ∧ Below w0.heap.size w0 w' := fun w0 h => te_lit s1 h
 have HSp : ∀ (w0 : World) (x y : Value), R w0 (fun _ => False) (encS l) x → R w0 (fun _ => False) (enc e) y → Calls Try.prog 13 #[x, y] w0 fun e w' => ∃ u, e = .returned (.tuple #[u, .bool ok]) ∧ R w' (fun _ => False) (encS ans) u ∧ Below w0.heap.size w0 w' := fun w0 x y h h' => by rw [← hans, ← hok]; exact sp_lit hl20 hfit hef h h'
 have HIm : ∀ (w0 : World) (x y : Value), R w0 (fun _ => False) (encS l) x → R w0 (fun _ => False) (enc e) y → Calls Try.prog 15 #[x, y] w0 fun e w' => ∃ v', e = .returned (.tuple #[v', .bool ok]) ∧ Own w0.heap.size 42 w' ans v' ∧ Below w0.heap.size w0 w' := fun w0 x y h h' => by rw [← hans, ← hok]; exact w_AddEntry l e hl20 hfit hef w0 x y h h'
 have HEq : ∀ (w0 : World) (x y : Value), R w0 (fun _ => False) (encS ans) x → R w0 (fun _ => False) (encS ans) y → Calls Try.prog 9 #[x, y] w0 fun e w' => e = .returned (.bool true) ∧ Below w0.heap.size w0 w' := fun w0 x y h h' => eq_lit h h'
 have HEe : ∀ (w0 : World) (x y : Value), R w0 (fun _ => False) (encS l) x → R w0 (fun _ => False) (encS l) y → Calls Try.prog 9 #[x, y] w0 fun e w' => e = .returned (.bool true) ∧ Below w0.heap.size w0 w' := fun w0 x y h h' => eq_lit h h'
 have HE1 : ∀ (w0 : World) (x y : Value), R w0 (fun _ => False) (enc e) x → R w0 (fun _ => False) (enc e) y → Calls Try.prog 16 #[x, y] w0 fun e w' => e = .returned (.bool true) ∧ Below w0.heap.size w0 w' := fun w0 x y h h' => eq1_lit h h'
 obtain ⟨K1, hK1⟩ : ∃ K1, 1 + cntTo l l.length = K1 := ⟨_, rfl⟩
 obtain ⟨K2, hK2⟩ : ∃ K2, K1 + e.recipe.length + 4 * e.needs.length = K2 := ⟨_, rfl⟩
 obtain ⟨K3, hK3⟩ : ∃ K3, 1 + cntTo ans ans.length = K3 := ⟨_, rfl⟩
 have hE1 := hef.1
 have hE2 := hef.2
 have HMa : ∀ (w0 : World) (B : Nat) (x : Value), Own B 42 w0 ans x → Calls Try.prog 10 #[x, .int .i64 ((1 : Nat) : Int)] w0 fun e w' => e = .returned (.int .i64 (K3 : Int)) ∧ Alt (fun p => B ≤ p.block) w0 w' ∧ R w' (fun _ => False) (encS (mixL 1 ans ans.length)) x := fun w0 B x h => by rw [← hK3]; exact m_Own ans 1 w0 h (by omega) (by omega)
 have HHe : ∀ (w0 : World) (x : Value), R w0 (fun _ => False) (encS (mixL 1 ans ans.length)) x → Calls Try.prog 11 #[x, .int .i64 1] w0 fun e w' => e = .returned (.int .i64 (K3 : Int)) ∧ Below w0.heap.size w0 w' := fun w0 x h => by rw [← hK3]; exact he_lit (by omega) (by omega) h
 clear hans hok hfit s0 s1 hz hz2 q0 q1
 refine CW.seq (CW.seq (CW.region ?_))
 refine WL.vv rfl rfl (r_move rfl rfl) (by decide) ?_
 refine WL.vv rfl rfl (r_cmpB (b := false) rfl rfl rfl rfl (by simp [cmpI] <;> omega)) (by decide) ?_
 refine WL.nil (NX.next (CW.no rfl (CW.skip (NX.next ?_))))
 refine CW.sub (E' := [(0, v), (3, .pointer (some ⟨w.heap.size, 0, none⟩))]) ⟨rfl, rfl, trivial⟩ ?_
 refine CW.seq (CW.any (fun W => RBlk W w.heap.size 36 #[.string e.name, .slice a1 n1 c1, .int .i64 e.ver.maj, .int .i64 e.ver.min, .slice a4 n4 c4]) 9 mo fun w3 hwd3 hb3 => ?_)
 replace HV := up_keep HV hb3
 replace HU := up_keep HU hb3
 replace p0 := p0.below hb3 p0.lt
 replace HB := bt HB hb3
 have le_w3 := hb3.size
 refine ⟨p0, ?_⟩
 refine AU.take 0 rfl (by kernel_rfl) (by kernel_rfl) (by kernel_rfl) (by kernel_rfl) (fun _ _ _ h => h) rfl rfl (fun W hW => r_move rfl rfl) (by decide) p0 ?_
 refine AU.take 2 rfl (by kernel_rfl) (by kernel_rfl) (by kernel_rfl) (by kernel_rfl) (fun _ _ _ h => h) rfl rfl (fun W hW => r_loadS rfl rfl Try.underlying36 rfl hW is_L) (by decide) p0 ?_
 refine AU.c 1 (args := #[v]) rfl (by kernel_rfl) rfl rfl (r_call (by kernel_rfl) rfl rfl rfl) (by decide) (HTo w3 HV.zero) ?_
 rintro _ w4 ⟨xw4, rfl, hxw4, hb4⟩
 have le_w4 := hb4.size
 replace HV := up_keep HV hb4
 replace HU := up_keep HU hb4
 replace p0 := p0.below hb4 p0.lt
 replace HB := bt HB hb4
 have X_xw4 := hxw4.zero
 refine ⟨_, rfl, fun _ => p0, ?_⟩
 refine AU.c 3 (args := #[.agg #[.string e.name, .slice a1 n1 c1, .int .i64 e.ver.maj, .int .i64 e.ver.min, .slice a4 n4 c4]]) rfl (by kernel_rfl) rfl rfl (r_call (by kernel_rfl) rfl rfl rfl) (by decide) (HTe w4 HU.zero) ?_
 rintro _ w5 ⟨bw5, mw5, dw5, fw5, qw5, tw5, rfl, hyw5, hb5⟩
 have le_w5 := hb5.size
 replace HV := up_keep HV hb5
 replace HU := up_keep HU hb5
 replace p0 := p0.below hb5 p0.lt
 replace HB := bt HB hb5
 replace X_xw4 := R.keep (Keeps.below hb5 fun _ _ h => h) _ _ X_xw4
 have Y_yw5 := hyw5.zero
 refine ⟨_, rfl, fun _ => p0, ?_⟩
 refine AU.c 4 (args := #[xw4, .agg #[.string e.name, .slice bw5 mw5 dw5, .int .i64 e.ver.maj, .int .i64 e.ver.min, .slice fw5 qw5 tw5]]) rfl (by kernel_rfl) rfl rfl (r_call (by kernel_rfl) rfl rfl rfl) (by decide) (HSp w5 _ _ X_xw4 Y_yw5) ?_
 rintro _ w6 ⟨uw6, rfl, huw6, hb6⟩
 have le_w6 := hb6.size
 replace HV := up_keep HV hb6
 replace HU := up_keep HU hb6
 replace p0 := p0.below hb6 p0.lt
 replace HB := bt HB hb6
 replace X_xw4 := R.keep (Keeps.below hb6 fun _ _ h => h) _ _ X_xw4
 replace Y_yw5 := R.keep (Keeps.below hb6 fun _ _ h => h) _ _ Y_yw5
 have HG := huw6.over
 refine ⟨_, rfl, fun _ => p0, ?_⟩
 refine AU.take 5 rfl (by kernel_rfl) (by kernel_rfl) (by kernel_rfl) (by kernel_rfl) (fun _ _ _ h => h) rfl rfl (fun W hW => r_move rfl rfl) (by decide) p0 ?_
 refine AU.take 6 rfl (by kernel_rfl) (by kernel_rfl) (by kernel_rfl) (by kernel_rfl) (fun _ _ _ h => h) rfl rfl (fun W hW => r_extract rfl rfl rfl) (by decide) p0 ?_
 refine AU.take 8 rfl (by kernel_rfl) (by kernel_rfl) (by kernel_rfl) (by kernel_rfl) (fun _ _ _ h => h) rfl rfl (fun W hW => r_assign rfl rfl) (by decide) p0 ?_
 refine AU.take 7 rfl (by kernel_rfl) (by kernel_rfl) (by kernel_rfl) (by kernel_rfl) (fun _ _ _ h => h) rfl rfl (fun W hW => r_extract rfl rfl rfl) (by decide) p0 ?_
 refine AU.vv 9 rfl (by kernel_rfl) rfl rfl (r_assign rfl rfl) (by decide) (fun _ => p0) ?_
 refine AU.done (by kernel_rfl) (NX.next ?_)
 refine CW.sub (E' := [(0, v), (3, .pointer (some ⟨w.heap.size, 0, none⟩)), (6, uw6), (7, .bool ok)]) ⟨rfl, rfl, rfl, rfl, trivial⟩ ?_
 refine CW.seq (CW.region ?_)
 refine WL.vv rfl rfl (r_move rfl rfl) (by decide) ?_
 refine WL.c rfl rfl (r_call (args := #[v]) (by kernel_rfl) rfl rfl rfl) (by decide) (HTo w6 HV.zero) ?_
 rintro _ w7 ⟨xw7, rfl, hxw7, hb7⟩
 have le_w7 := hb7.size
 replace HV := up_keep HV hb7
 replace HU := up_keep HU hb7
 replace p0 := p0.below hb7 p0.lt
 replace HB := bt HB hb7
 replace X_xw4 := R.keep (Keeps.below hb7 fun _ _ h => h) _ _ X_xw4
 replace Y_yw5 := R.keep (Keeps.below hb7 fun _ _ h => h) _ _ Y_yw5
 replace HG := up_keep HG hb7
 have X0 := nu_of hxw7
 refine ⟨_, rfl, ?_⟩
 refine WL.vv rfl rfl (r_assign rfl rfl) (by decide) ?_
 refine WL.nil (NX.next ?_)
 refine CW.sub (E' := [(0, v), (3, .pointer (some ⟨w.heap.size, 0, none⟩)), (6, uw6), (7, .bool ok), (8, xw7)]) ⟨rfl, rfl, rfl, rfl, rfl, trivial⟩ ?_
 refine CW.seq (CW.region ?_)
 refine WL.vv rfl rfl (r_loadS rfl rfl Try.underlying36 rfl p0 is_L) (by decide) ?_
 refine WL.c rfl rfl (r_call (args := #[.agg #[.string e.name, .slice a1 n1 c1, .int .i64 e.ver.maj, .int .i64 e.ver.min, .slice a4 n4 c4]]) (by kernel_rfl) rfl rfl rfl) (by decide) (HTe w7 HU.zero) ?_
 rintro _ w8 ⟨bw8, mw8, dw8, fw8, qw8, tw8, rfl, hyw8, hb8⟩
 have le_w8 := hb8.size
 replace HV := up_keep HV hb8
 replace HU := up_keep HU hb8
 replace p0 := p0.below hb8 p0.lt
 replace HB := bt HB hb8
 replace X_xw4 := R.keep (Keeps.below hb8 fun _ _ h => h) _ _ X_xw4
 replace Y_yw5 := R.keep (Keeps.below hb8 fun _ _ h => h) _ _ Y_yw5
 replace HG := up_keep HG hb8
 replace X0 := nu_keep X0 hb8
 have X1 := nu_of hyw8
 refine ⟨_, rfl, ?_⟩
 refine WL.vv rfl rfl (r_alloc rfl iz_E) (by decide) ?_
 refine WL.st rfl rfl rfl rfl (cs := #[.string e.name, .slice bw8 mw8 dw8, .int .i64 e.ver.maj, .int .i64 e.ver.min, .slice fw8 qw8 tw8]) rfl (show RBlk (w8.alloc (.cells zEnt 42)) w8.heap.size 42 zEnt from RBlk.new w8 _ _) rfl (one_E _ _ _ _ _ _ _ _ _) is_E fun w9 Rw9 Ow9 => ?_
 have hb9 : Below w8.heap.size w8 w9 := below_alloc_one Ow9
 have hsz9 : w8.heap.size < w9.heap.size := Rw9.lt
 replace HV := up_keep HV hb9
 replace HU := up_keep HU hb9
 replace p0 := p0.below hb9 p0.lt
 replace HB := bt HB hb9
 replace X_xw4 := R.keep (Keeps.below hb9 fun _ _ h => h) _ _ X_xw4
 replace Y_yw5 := R.keep (Keeps.below hb9 fun _ _ h => h) _ _ Y_yw5
 replace HG := up_keep HG hb9
 replace X0 := nu_keep X0 hb9
 replace X1 := nu_keep X1 hb9
 refine WL.nil (NX.next ?_)
 refine CW.sub (E' := [(0, v), (3, .pointer (some ⟨w.heap.size, 0, none⟩)), (6, uw6), (7, .bool ok), (8, xw7), (9, .pointer (some ⟨w8.heap.size, 0, none⟩))]) ⟨rfl, rfl, rfl, rfl, rfl, rfl, trivial⟩ ?_
 refine CW.seq (CW.region ?_)
 refine WL.vv rfl rfl (r_move rfl rfl) (by decide) ?_
 refine WL.vv rfl rfl (r_loadS rfl rfl Try.underlying42 rfl Rw9 is_E) (by decide) ?_
 refine WL.c rfl rfl (r_call (args := #[xw7, .agg #[.string e.name, .slice bw8 mw8 dw8, .int .i64 e.ver.maj, .int .i64 e.ver.min, .slice fw8 qw8 tw8]]) (by kernel_rfl) rfl rfl rfl) (by decide) (HIm w9 _ _ (R.zero X0) (R.zero X1)) ?_
 rintro _ w10 ⟨gw10, rfl, hgw10, hb10⟩
 have le_w10 := hb10.size
 replace HV := up_keep HV hb10
 replace HU := up_keep HU hb10
 replace p0 := p0.below hb10 p0.lt
 replace HB := bt HB hb10
 replace X_xw4 := R.keep (Keeps.below hb10 fun _ _ h => h) _ _ X_xw4
 replace Y_yw5 := R.keep (Keeps.below hb10 fun _ _ h => h) _ _ Y_yw5
 replace HG := up_keep HG hb10
 replace X0 := nu_keep X0 hb10
 replace X1 := nu_keep X1 hb10
 replace Rw9 := Rw9.below hb10 Rw9.lt
 have HA := hgw10
 refine ⟨_, rfl, ?_⟩
 refine WL.vv rfl rfl (r_move rfl rfl) (by decide) ?_
 refine WL.vv rfl rfl (r_extract rfl rfl rfl) (by decide) ?_
 refine WL.vv rfl rfl (r_extract rfl rfl rfl) (by decide) ?_
 refine WL.vv rfl rfl (r_assign rfl rfl) (by decide) ?_
 refine WL.vv rfl rfl (r_assign rfl rfl) (by decide) ?_
 refine WL.nil (NX.next ?_)
 refine CW.sub (E' := [(0, v), (3, .pointer (some ⟨w.heap.size, 0, none⟩)), (6, uw6), (7, .bool ok), (8, xw7), (9, .pointer (some ⟨w8.heap.size, 0, none⟩)), (10, gw10), (11, .bool ok)]) ⟨rfl, rfl, rfl, rfl, rfl, rfl, rfl, rfl, trivial⟩ ?_
 refine CW.seq (CW.seq (CW.region ?_))
 refine WL.vv rfl rfl (r_move rfl rfl) (by decide) ?_
 refine WL.vv rfl rfl (r_move rfl rfl) (by decide) ?_
 refine WL.c rfl rfl (r_call (args := #[gw10, uw6]) (by kernel_rfl) rfl rfl rfl) (by decide) (HEq w10 _ _ HA.read HG.zero) ?_
 rintro _ w11 ⟨rfl, hb11⟩
 have le_w11 := hb11.size
 replace HV := up_keep HV hb11
 replace HU := up_keep HU hb11
 replace p0 := p0.below hb11 p0.lt
 replace HB := bt HB hb11
 replace X_xw4 := R.keep (Keeps.below hb11 fun _ _ h => h) _ _ X_xw4
 replace Y_yw5 := R.keep (Keeps.below hb11 fun _ _ h => h) _ _ Y_yw5
 replace HG := up_keep HG hb11
 replace X0 := nu_keep X0 hb11
 replace X1 := nu_keep X1 hb11
 replace Rw9 := Rw9.below hb11 Rw9.lt
 replace HA := HA.below hb11
 refine ⟨_, rfl, ?_⟩
 refine WL.vv rfl rfl (r_notB rfl rfl rfl) (by decide) ?_
 refine WL.vv rfl rfl (r_move rfl rfl) (by decide) ?_
 refine WL.vg (b := false) rfl rfl rfl rfl (r_move rfl rfl) (by decide) ?_
 refine WL.vg (b := false) rfl rfl rfl rfl (r_move rfl rfl) (by decide) ?_
 refine WL.vg (b := false) rfl rfl rfl rfl (r_neBB rfl rfl rfl Try.underlying4) (by decide) ?_
 refine WL.vv rfl rfl (r_pickF rfl rfl rfl) (by decide) ?_
 refine WL.nil (NX.next (CW.no rfl (CW.skip (NX.next ?_))))
 refine CW.sub (E' := [(0, v), (3, .pointer (some ⟨w.heap.size, 0, none⟩)), (6, uw6), (7, .bool ok), (8, xw7), (9, .pointer (some ⟨w8.heap.size, 0, none⟩)), (10, gw10), (11, .bool ok)]) ⟨rfl, rfl, rfl, rfl, rfl, rfl, rfl, rfl, trivial⟩ ?_
 refine CW.seq (CW.seq (CW.region ?_))
 refine WL.vv rfl rfl (r_move rfl rfl) (by decide) ?_
 refine WL.vv rfl rfl (r_move rfl rfl) (by decide) ?_
 refine WL.c rfl rfl (r_call (args := #[v]) (by kernel_rfl) rfl rfl rfl) (by decide) (HTo w11 HV.zero) ?_
 rintro _ w12 ⟨xw12, rfl, hxw12, hb12⟩
 have le_w12 := hb12.size
 replace HV := up_keep HV hb12
 replace HU := up_keep HU hb12
 replace p0 := p0.below hb12 p0.lt
 replace HB := bt HB hb12
 replace X_xw4 := R.keep (Keeps.below hb12 fun _ _ h => h) _ _ X_xw4
 replace Y_yw5 := R.keep (Keeps.below hb12 fun _ _ h => h) _ _ Y_yw5
 replace HG := up_keep HG hb12
 replace X0 := nu_keep X0 hb12
 replace X1 := nu_keep X1 hb12
 replace Rw9 := Rw9.below hb12 Rw9.lt
 replace HA := HA.below hb12
 have X_xw12 := hxw12.zero
 refine ⟨_, rfl, ?_⟩
 refine WL.c rfl rfl (r_call (args := #[xw7, xw12]) (by kernel_rfl) rfl rfl rfl) (by decide) (HEe w12 _ _ (R.zero X0) X_xw12) ?_
 rintro _ w13 ⟨rfl, hb13⟩
 have le_w13 := hb13.size
 replace HV := up_keep HV hb13
 replace HU := up_keep HU hb13
 replace p0 := p0.below hb13 p0.lt
 replace HB := bt HB hb13
 replace X_xw4 := R.keep (Keeps.below hb13 fun _ _ h => h) _ _ X_xw4
 replace Y_yw5 := R.keep (Keeps.below hb13 fun _ _ h => h) _ _ Y_yw5
 replace HG := up_keep HG hb13
 replace X0 := nu_keep X0 hb13
 replace X1 := nu_keep X1 hb13
 replace Rw9 := Rw9.below hb13 Rw9.lt
 replace HA := HA.below hb13
 replace X_xw12 := R.keep (Keeps.below hb13 fun _ _ h => h) _ _ X_xw12
 refine ⟨_, rfl, ?_⟩
 refine WL.vv rfl rfl (r_notB rfl rfl rfl) (by decide) ?_
 refine WL.nil (NX.next (CW.no rfl (CW.skip (NX.next ?_))))
 refine CW.sub (E' := [(0, v), (3, .pointer (some ⟨w.heap.size, 0, none⟩)), (6, uw6), (7, .bool ok), (8, xw7), (9, .pointer (some ⟨w8.heap.size, 0, none⟩)), (10, gw10), (11, .bool ok)]) ⟨rfl, rfl, rfl, rfl, rfl, rfl, rfl, rfl, trivial⟩ ?_
 refine CW.seq (CW.seq (CW.any (fun W => RBlk W w8.heap.size 42 #[.string e.name, .slice bw8 mw8 dw8, .int .i64 e.ver.maj, .int .i64 e.ver.min, .slice fw8 qw8 tw8] ∧ RBlk W w.heap.size 36 #[.string e.name, .slice a1 n1 c1, .int .i64 e.ver.maj, .int .i64 e.ver.min, .slice a4 n4 c4]) 4 mo fun w14 hwd14 hb14 => ?_))
 replace HV := up_keep HV hb14
 replace HU := up_keep HU hb14
 replace p0 := p0.below hb14 p0.lt
 replace HB := bt HB hb14
 replace X_xw4 := R.keep (Keeps.below hb14 fun _ _ h => h) _ _ X_xw4
 replace Y_yw5 := R.keep (Keeps.below hb14 fun _ _ h => h) _ _ Y_yw5
 replace HG := up_keep HG hb14
 replace X0 := nu_keep X0 hb14
 replace X1 := nu_keep X1 hb14
 replace Rw9 := Rw9.below hb14 Rw9.lt
 replace HA := HA.below hb14
 replace X_xw12 := R.keep (Keeps.below hb14 fun _ _ h => h) _ _ X_xw12
 have le_w14 := hb14.size
 refine ⟨⟨Rw9, p0⟩, ?_⟩
 refine AU.take 0 rfl (by kernel_rfl) (by kernel_rfl) (by kernel_rfl) (by kernel_rfl) (fun _ _ _ h => h) rfl rfl (fun W hW => r_loadS rfl rfl Try.underlying42 rfl hW.1 is_E) (by decide) ⟨Rw9, p0⟩ ?_
 refine AU.take 1 rfl (by kernel_rfl) (by kernel_rfl) (by kernel_rfl) (by kernel_rfl) (fun _ _ _ h => h) rfl rfl (fun W hW => r_loadS rfl rfl Try.underlying36 rfl hW.2 is_L) (by decide) ⟨Rw9, p0⟩ ?_
 refine AU.c 2 (args := #[.agg #[.string e.name, .slice a1 n1 c1, .int .i64 e.ver.maj, .int .i64 e.ver.min, .slice a4 n4 c4]]) rfl (by kernel_rfl) rfl rfl (r_call (by kernel_rfl) rfl rfl rfl) (by decide) (HTe w14 HU.zero) ?_
 rintro _ w15 ⟨bw15, mw15, dw15, fw15, qw15, tw15, rfl, hyw15, hb15⟩
 have le_w15 := hb15.size
 replace HV := up_keep HV hb15
 replace HU := up_keep HU hb15
 replace p0 := p0.below hb15 p0.lt
 replace HB := bt HB hb15
 replace X_xw4 := R.keep (Keeps.below hb15 fun _ _ h => h) _ _ X_xw4
 replace Y_yw5 := R.keep (Keeps.below hb15 fun _ _ h => h) _ _ Y_yw5
 replace HG := up_keep HG hb15
 replace X0 := nu_keep X0 hb15
 replace X1 := nu_keep X1 hb15
 replace Rw9 := Rw9.below hb15 Rw9.lt
 replace HA := HA.below hb15
 replace X_xw12 := R.keep (Keeps.below hb15 fun _ _ h => h) _ _ X_xw12
 have Y_yw15 := hyw15.zero
 refine ⟨_, rfl, fun _ => ⟨Rw9, p0⟩, ?_⟩
 refine AU.c 3 (args := #[.agg #[.string e.name, .slice bw8 mw8 dw8, .int .i64 e.ver.maj, .int .i64 e.ver.min, .slice fw8 qw8 tw8], .agg #[.string e.name, .slice bw15 mw15 dw15, .int .i64 e.ver.maj, .int .i64 e.ver.min, .slice fw15 qw15 tw15]]) rfl (by kernel_rfl) rfl rfl (r_call (by kernel_rfl) rfl rfl rfl) (by decide) (HE1 w15 _ _ (R.zero X1) Y_yw15) ?_
 rintro _ w16 ⟨rfl, hb16⟩
 have le_w16 := hb16.size
 replace HV := up_keep HV hb16
 replace HU := up_keep HU hb16
 replace p0 := p0.below hb16 p0.lt
 replace HB := bt HB hb16
 replace X_xw4 := R.keep (Keeps.below hb16 fun _ _ h => h) _ _ X_xw4
 replace Y_yw5 := R.keep (Keeps.below hb16 fun _ _ h => h) _ _ Y_yw5
 replace HG := up_keep HG hb16
 replace X0 := nu_keep X0 hb16
 replace X1 := nu_keep X1 hb16
 replace Rw9 := Rw9.below hb16 Rw9.lt
 replace HA := HA.below hb16
 replace X_xw12 := R.keep (Keeps.below hb16 fun _ _ h => h) _ _ X_xw12
 replace Y_yw15 := R.keep (Keeps.below hb16 fun _ _ h => h) _ _ Y_yw15
 refine ⟨_, rfl, fun _ => ⟨Rw9, p0⟩, ?_⟩
 refine AU.vv 4 rfl (by kernel_rfl) rfl rfl (r_notB rfl rfl rfl) (by decide) (fun _ => ⟨Rw9, p0⟩) ?_
 refine AU.done (by kernel_rfl) (NX.next (CW.no rfl (CW.skip (NX.next ?_))))
 refine CW.sub (E' := [(0, v), (3, .pointer (some ⟨w.heap.size, 0, none⟩)), (6, uw6), (7, .bool ok), (8, xw7), (9, .pointer (some ⟨w8.heap.size, 0, none⟩)), (10, gw10), (11, .bool ok)]) ⟨rfl, rfl, rfl, rfl, rfl, rfl, rfl, rfl, trivial⟩ ?_
 refine CW.seq (CW.region ?_)
 refine WL.vv rfl rfl (r_assign rfl rfl) (by decide) ?_
 refine WL.nil (NX.next ?_)
 refine CW.sub (E' := [(0, v), (3, .pointer (some ⟨w.heap.size, 0, none⟩)), (6, uw6), (7, .bool ok), (8, xw7), (9, .pointer (some ⟨w8.heap.size, 0, none⟩)), (10, gw10), (11, .bool ok), (12, .int .i64 1)]) ⟨rfl, rfl, rfl, rfl, rfl, rfl, rfl, rfl, rfl, trivial⟩ ?_
 refine CW.seq (CW.region ?_)
 refine WL.vv rfl rfl (r_move rfl rfl) (by decide) ?_
 refine WL.vv rfl rfl (r_move rfl rfl) (by decide) ?_
 have hm := m_EntryS l 1 w16 (NU w16 w6.heap.size w7.heap.size) xw7 X0 (fun p hp => .inl (.inr hp)) (by omega) (by omega)
 rw [hK1] at hm
 clear X0
 clear X_xw4
 clear Y_yw5
 clear X_xw12
 clear Y_yw15
 refine WL.c rfl rfl (r_call (args := #[xw7, .int .i64 1]) (by kernel_rfl) rfl rfl rfl) (by decide) (hm) ?_
 rintro _ w17 ⟨rfl, ha⟩
 have hA : ∀ p : Addr, ¬ NU w16 w6.heap.size w7.heap.size p → w6.heap.size ≤ p.block ∧ p.block < w7.heap.size := fun p hp => nu_blk hp
 have le_w17 := ha.size
 replace HV := up_alt HV ha fun p hp => by have := hA p hp; omega
 replace HU := up_alt HU ha fun p hp => by have := hA p hp; omega
 replace p0 := p0.alt ha fun p hp e => by have := hA p hp; omega
 replace HB := below_on HB (ha.to_below (by omega) fun p hp => by have := hA p hp; omega)
 replace HG := up_alt HG ha fun p hp => by have := hA p hp; omega
 replace X1 := nu_alt X1 ha fun p hp => by have := hA p hp; omega
 replace Rw9 := Rw9.alt ha fun p hp e => by have := hA p hp; omega
 replace HA := HA.alt ha fun p hp => by have := hA p hp; omega
 clear ha hA hm
 refine ⟨_, rfl, ?_⟩
 refine WL.vv rfl rfl (r_assign rfl rfl) (by decide) ?_
 refine WL.nil (NX.next ?_)
 refine CW.sub (E' := [(0, v), (3, .pointer (some ⟨w.heap.size, 0, none⟩)), (6, uw6), (7, .bool ok), (9, .pointer (some ⟨w8.heap.size, 0, none⟩)), (10, gw10), (11, .bool ok), (12, .int .i64 (K1 : Int))]) ⟨rfl, rfl, rfl, rfl, rfl, rfl, rfl, rfl, trivial⟩ ?_
 refine CW.seq (CW.region ?_)
 refine WL.vv rfl rfl (r_loadS rfl rfl Try.underlying42 rfl Rw9 is_E) (by decide) ?_
 refine WL.vv rfl rfl (r_move rfl rfl) (by decide) ?_
 have hm := m_Entry1 e K1 w17 (NU w17 w7.heap.size w8.heap.size) _ _ _ _ _ X1 (fun p hp => .inl (.inr hp)) (fun p hp => by have := (nu_blk hp).2; omega) (by omega)
 rw [hK2] at hm
 clear X1
 refine WL.c rfl rfl (r_call (args := #[.agg #[.string e.name, .slice bw8 mw8 dw8, .int .i64 e.ver.maj, .int .i64 e.ver.min, .slice fw8 qw8 tw8], .int .i64 (K1 : Int)]) (by kernel_rfl) rfl rfl rfl) (by decide) (hm) ?_
 rintro _ w18 ⟨rfl, ha⟩
 have hA : ∀ p : Addr, ¬ NU w17 w7.heap.size w8.heap.size p → w7.heap.size ≤ p.block ∧ p.block < w8.heap.size := fun p hp => nu_blk hp
 have le_w18 := ha.size
 replace HV := up_alt HV ha fun p hp => by have := hA p hp; omega
 replace HU := up_alt HU ha fun p hp => by have := hA p hp; omega
 replace p0 := p0.alt ha fun p hp e => by have := hA p hp; omega
 replace HB := below_on HB (ha.to_below (by omega) fun p hp => by have := hA p hp; omega)
 replace HG := up_alt HG ha fun p hp => by have := hA p hp; omega
 replace Rw9 := Rw9.alt ha fun p hp e => by have := hA p hp; omega
 replace HA := HA.alt ha fun p hp => by have := hA p hp; omega
 clear ha hA hm
 refine ⟨_, rfl, ?_⟩
 refine WL.vv rfl rfl (r_assign rfl rfl) (by decide) ?_
 refine WL.nil (NX.next ?_)
 refine CW.sub (E' := [(0, v), (3, .pointer (some ⟨w.heap.size, 0, none⟩)), (6, uw6), (7, .bool ok), (10, gw10), (11, .bool ok), (12, .int .i64 (K2 : Int))]) ⟨rfl, rfl, rfl, rfl, rfl, rfl, rfl, trivial⟩ ?_
 refine CW.seq (CW.seq (CW.region ?_))
 refine WL.vv rfl rfl (r_move rfl rfl) (by decide) ?_
 refine WL.vv rfl rfl (r_cmpB (b := false) rfl rfl rfl rfl (by simp [cmpI] <;> omega)) (by decide) ?_
 refine WL.vv rfl rfl (r_move rfl rfl) (by decide) ?_
 refine WL.vg (b := false) rfl rfl rfl rfl (r_move rfl rfl) (by decide) ?_
 refine WL.vg (b := false) rfl rfl rfl rfl (r_move rfl rfl) (by decide) ?_
 refine WL.cg (b := false) rfl rfl rfl rfl (r_call (args := #[gw10, uw6]) (by kernel_rfl) rfl rfl rfl) (by decide) (HEq w18 _ _ HA.read HG.zero) ?_
 rintro _ w19 ⟨rfl, hb19⟩
 have le_w19 := hb19.size
 replace HV := up_keep HV hb19
 replace HU := up_keep HU hb19
 replace p0 := p0.below hb19 p0.lt
 replace HB := bt HB hb19
 replace HG := up_keep HG hb19
 replace Rw9 := Rw9.below hb19 Rw9.lt
 replace HA := HA.below hb19
 refine ⟨_, rfl, ?_⟩
 refine WL.vg (b := false) rfl rfl rfl rfl (r_notB rfl rfl rfl) (by decide) ?_
 refine WL.vv rfl rfl (r_pickF rfl rfl rfl) (by decide) ?_
 refine WL.vv rfl rfl (r_move rfl rfl) (by decide) ?_
 refine WL.vg (b := false) rfl rfl rfl rfl (r_move rfl rfl) (by decide) ?_
 refine WL.vg (b := false) rfl rfl rfl rfl (r_move rfl rfl) (by decide) ?_
 refine WL.vg (b := false) rfl rfl rfl rfl (r_neBB rfl rfl rfl Try.underlying4) (by decide) ?_
 refine WL.vv rfl rfl (r_pickF rfl rfl rfl) (by decide) ?_
 refine WL.nil (NX.next (CW.no rfl (CW.skip (NX.next ?_))))
 refine CW.sub (E' := [(0, v), (3, .pointer (some ⟨w.heap.size, 0, none⟩)), (6, uw6), (7, .bool ok), (10, gw10)]) ⟨rfl, rfl, rfl, rfl, rfl, trivial⟩ ?_
 refine CW.seq (CW.region ?_)
 refine WL.vv rfl rfl (r_assign rfl rfl) (by decide) ?_
 refine WL.nil (NX.next ?_)
 refine CW.sub (E' := [(0, v), (3, .pointer (some ⟨w.heap.size, 0, none⟩)), (6, uw6), (7, .bool ok), (10, gw10), (13, .int .i64 1)]) ⟨rfl, rfl, rfl, rfl, rfl, rfl, trivial⟩ ?_
 refine CW.seq (CW.region ?_)
 refine WL.vv rfl rfl (r_move rfl rfl) (by decide) ?_
 refine WL.vv rfl rfl (r_move rfl rfl) (by decide) ?_
 have hm := HMa w19 _ _ HA
 clear HA
 refine WL.c rfl rfl (r_call (args := #[gw10, .int .i64 1]) (by kernel_rfl) rfl rfl rfl) (by decide) (hm) ?_
 rintro _ w20 ⟨rfl, ha, hr⟩
 have hA : ∀ p : Addr, w9.heap.size ≤ p.block → w9.heap.size ≤ p.block := fun p hp => hp
 have le_w20 := ha.size
 replace HV := up_alt HV ha fun p hp => by have := hA p hp; omega
 replace HU := up_alt HU ha fun p hp => by have := hA p hp; omega
 replace p0 := p0.alt ha fun p hp e => by have := hA p hp; omega
 replace HB := below_on HB (ha.to_below (by omega) fun p hp => by have := hA p hp; omega)
 replace HG := up_alt HG ha fun p hp => by have := hA p hp; omega
 replace Rw9 := Rw9.alt ha fun p hp e => by have := hA p hp; omega
 have HM := hr
 clear ha hA hm
 refine ⟨_, rfl, ?_⟩
 refine WL.vv rfl rfl (r_assign rfl rfl) (by decide) ?_
 refine WL.nil (NX.next ?_)
 refine CW.sub (E' := [(0, v), (3, .pointer (some ⟨w.heap.size, 0, none⟩)), (6, uw6), (7, .bool ok), (10, gw10), (13, .int .i64 (K3 : Int))]) ⟨rfl, rfl, rfl, rfl, rfl, rfl, trivial⟩ ?_
 refine CW.seq (CW.region ?_)
 refine WL.vv rfl rfl (r_assign rfl rfl) (by decide) ?_
 refine WL.nil (NX.next ?_)
 refine CW.sub (E' := [(0, v), (3, .pointer (some ⟨w.heap.size, 0, none⟩)), (6, uw6), (7, .bool ok), (10, gw10), (13, .int .i64 (K3 : Int)), (14, .int .i64 1)]) ⟨rfl, rfl, rfl, rfl, rfl, rfl, rfl, trivial⟩ ?_
 refine CW.seq (CW.region ?_)
 refine WL.vv rfl rfl (r_move rfl rfl) (by decide) ?_
 refine WL.vv rfl rfl (r_move rfl rfl) (by decide) ?_
 refine WL.c rfl rfl (r_call (args := #[gw10, .int .i64 1]) (by kernel_rfl) rfl rfl rfl) (by decide) (HHe w20 _ HM) ?_
 rintro _ w21 ⟨rfl, hb21⟩
 have le_w21 := hb21.size
 replace HV := up_keep HV hb21
 replace HU := up_keep HU hb21
 replace p0 := p0.below hb21 p0.lt
 replace HB := bt HB hb21
 replace HG := up_keep HG hb21
 replace Rw9 := Rw9.below hb21 Rw9.lt
 replace HM := R.keep (Keeps.below hb21 fun _ _ h => h) _ _ HM
 refine ⟨_, rfl, ?_⟩
 refine WL.vv rfl rfl (r_assign rfl rfl) (by decide) ?_
 refine WL.nil (NX.next ?_)
 refine CW.sub (E' := [(0, v), (3, .pointer (some ⟨w.heap.size, 0, none⟩)), (6, uw6), (7, .bool ok), (10, gw10), (13, .int .i64 (K3 : Int)), (14, .int .i64 (K3 : Int))]) ⟨rfl, rfl, rfl, rfl, rfl, rfl, rfl, trivial⟩ ?_
 refine CW.seq (CW.seq (CW.region ?_))
 refine WL.vv rfl rfl (r_move rfl rfl) (by decide) ?_
 refine WL.vv rfl rfl (r_cmpB (b := false) rfl rfl rfl rfl (by simp [cmpI] <;> omega)) (by decide) ?_
 refine WL.nil (NX.next (CW.no rfl (CW.skip (NX.next ?_))))
 refine CW.sub (E' := [(0, v), (3, .pointer (some ⟨w.heap.size, 0, none⟩)), (6, uw6), (7, .bool ok), (10, gw10), (13, .int .i64 (K3 : Int)), (14, .int .i64 (K3 : Int))]) ⟨rfl, rfl, rfl, rfl, rfl, rfl, rfl, trivial⟩ ?_
 refine CW.seq (CW.seq (CW.region ?_))
 refine WL.vv rfl rfl (r_move rfl rfl) (by decide) ?_
 refine WL.vv rfl rfl (r_move rfl rfl) (by decide) ?_
 refine WL.vv rfl rfl (r_cmpB (b := false) rfl rfl rfl rfl (by simp [cmpI])) (by decide) ?_
 refine WL.nil (NX.next (CW.no rfl (CW.skip (NX.next ?_))))
 refine CW.sub (E' := [(0, v), (3, .pointer (some ⟨w.heap.size, 0, none⟩)), (6, uw6), (7, .bool ok), (10, gw10), (13, .int .i64 (K3 : Int)), (14, .int .i64 (K3 : Int))]) ⟨rfl, rfl, rfl, rfl, rfl, rfl, rfl, trivial⟩ ?_
 refine CW.seq (CW.any (fun W => RBlk W w.heap.size 36 #[.string e.name, .slice a1 n1 c1, .int .i64 e.ver.maj, .int .i64 e.ver.min, .slice a4 n4 c4]) 9 mo fun w22 hwd22 hb22 => ?_)
 replace HV := up_keep HV hb22
 replace HU := up_keep HU hb22
 replace p0 := p0.below hb22 p0.lt
 replace HB := bt HB hb22
 replace HG := up_keep HG hb22
 replace Rw9 := Rw9.below hb22 Rw9.lt
 replace HM := R.keep (Keeps.below hb22 fun _ _ h => h) _ _ HM
 have le_w22 := hb22.size
 refine ⟨p0, ?_⟩
 refine AU.take 0 rfl (by kernel_rfl) (by kernel_rfl) (by kernel_rfl) (by kernel_rfl) (fun _ _ _ h => h) rfl rfl (fun W hW => r_move rfl rfl) (by decide) p0 ?_
 refine AU.take 2 rfl (by kernel_rfl) (by kernel_rfl) (by kernel_rfl) (by kernel_rfl) (fun _ _ _ h => h) rfl rfl (fun W hW => r_loadS rfl rfl Try.underlying36 rfl hW is_L) (by decide) p0 ?_
 refine AU.c 1 (args := #[v]) rfl (by kernel_rfl) rfl rfl (r_call (by kernel_rfl) rfl rfl rfl) (by decide) (HTo w22 HV.zero) ?_
 rintro _ w23 ⟨xw23, rfl, hxw23, hb23⟩
 have le_w23 := hb23.size
 replace HV := up_keep HV hb23
 replace HU := up_keep HU hb23
 replace p0 := p0.below hb23 p0.lt
 replace HB := bt HB hb23
 replace HG := up_keep HG hb23
 replace Rw9 := Rw9.below hb23 Rw9.lt
 replace HM := R.keep (Keeps.below hb23 fun _ _ h => h) _ _ HM
 have X_xw23 := hxw23.zero
 refine ⟨_, rfl, fun _ => p0, ?_⟩
 refine AU.c 3 (args := #[.agg #[.string e.name, .slice a1 n1 c1, .int .i64 e.ver.maj, .int .i64 e.ver.min, .slice a4 n4 c4]]) rfl (by kernel_rfl) rfl rfl (r_call (by kernel_rfl) rfl rfl rfl) (by decide) (HTe w23 HU.zero) ?_
 rintro _ w24 ⟨bw24, mw24, dw24, fw24, qw24, tw24, rfl, hyw24, hb24⟩
 have le_w24 := hb24.size
 replace HV := up_keep HV hb24
 replace HU := up_keep HU hb24
 replace p0 := p0.below hb24 p0.lt
 replace HB := bt HB hb24
 replace HG := up_keep HG hb24
 replace Rw9 := Rw9.below hb24 Rw9.lt
 replace HM := R.keep (Keeps.below hb24 fun _ _ h => h) _ _ HM
 replace X_xw23 := R.keep (Keeps.below hb24 fun _ _ h => h) _ _ X_xw23
 have Y_yw24 := hyw24.zero
 refine ⟨_, rfl, fun _ => p0, ?_⟩
 refine AU.c 4 (args := #[xw23, .agg #[.string e.name, .slice bw24 mw24 dw24, .int .i64 e.ver.maj, .int .i64 e.ver.min, .slice fw24 qw24 tw24]]) rfl (by kernel_rfl) rfl rfl (r_call (by kernel_rfl) rfl rfl rfl) (by decide) (HIm w24 _ _ X_xw23 Y_yw24) ?_
 rintro _ w25 ⟨gw25, rfl, hgw25, hb25⟩
 have le_w25 := hb25.size
 replace HV := up_keep HV hb25
 replace HU := up_keep HU hb25
 replace p0 := p0.below hb25 p0.lt
 replace HB := bt HB hb25
 replace HG := up_keep HG hb25
 replace Rw9 := Rw9.below hb25 Rw9.lt
 replace HM := R.keep (Keeps.below hb25 fun _ _ h => h) _ _ HM
 replace X_xw23 := R.keep (Keeps.below hb25 fun _ _ h => h) _ _ X_xw23
 replace Y_yw24 := R.keep (Keeps.below hb25 fun _ _ h => h) _ _ Y_yw24
 have HH := hgw25
 refine ⟨_, rfl, fun _ => p0, ?_⟩
 refine AU.take 5 rfl (by kernel_rfl) (by kernel_rfl) (by kernel_rfl) (by kernel_rfl) (fun _ _ _ h => h) rfl rfl (fun W hW => r_move rfl rfl) (by decide) p0 ?_
 refine AU.take 6 rfl (by kernel_rfl) (by kernel_rfl) (by kernel_rfl) (by kernel_rfl) (fun _ _ _ h => h) rfl rfl (fun W hW => r_extract rfl rfl rfl) (by decide) p0 ?_
 refine AU.take 8 rfl (by kernel_rfl) (by kernel_rfl) (by kernel_rfl) (by kernel_rfl) (fun _ _ _ h => h) rfl rfl (fun W hW => r_assign rfl rfl) (by decide) p0 ?_
 refine AU.take 7 rfl (by kernel_rfl) (by kernel_rfl) (by kernel_rfl) (by kernel_rfl) (fun _ _ _ h => h) rfl rfl (fun W hW => r_extract rfl rfl rfl) (by decide) p0 ?_
 refine AU.vv 9 rfl (by kernel_rfl) rfl rfl (r_assign rfl rfl) (by decide) (fun _ => p0) ?_
 refine AU.done (by kernel_rfl) (NX.next ?_)
 refine CW.sub (E' := [(6, uw6), (7, .bool ok), (10, gw10), (13, .int .i64 (K3 : Int)), (14, .int .i64 (K3 : Int)), (15, gw25), (16, .bool ok)]) ⟨rfl, rfl, rfl, rfl, rfl, rfl, rfl, trivial⟩ ?_
 refine CW.seq (CW.seq (CW.region ?_))
 refine WL.vv rfl rfl (r_move rfl rfl) (by decide) ?_
 refine WL.vv rfl rfl (r_move rfl rfl) (by decide) ?_
 refine WL.c rfl rfl (r_call (args := #[gw25, uw6]) (by kernel_rfl) rfl rfl rfl) (by decide) (HEq w25 _ _ HH.read HG.zero) ?_
 rintro _ w26 ⟨rfl, hb26⟩
 have le_w26 := hb26.size
 replace HV := up_keep HV hb26
 replace HU := up_keep HU hb26
 replace p0 := p0.below hb26 p0.lt
 replace HB := bt HB hb26
 replace HG := up_keep HG hb26
 replace Rw9 := Rw9.below hb26 Rw9.lt
 replace HM := R.keep (Keeps.below hb26 fun _ _ h => h) _ _ HM
 replace X_xw23 := R.keep (Keeps.below hb26 fun _ _ h => h) _ _ X_xw23
 replace Y_yw24 := R.keep (Keeps.below hb26 fun _ _ h => h) _ _ Y_yw24
 replace HH := HH.below hb26
 refine ⟨_, rfl, ?_⟩
 refine WL.vv rfl rfl (r_notB rfl rfl rfl) (by decide) ?_
 refine WL.vv rfl rfl (r_move rfl rfl) (by decide) ?_
 refine WL.vg (b := false) rfl rfl rfl rfl (r_move rfl rfl) (by decide) ?_
 refine WL.vg (b := false) rfl rfl rfl rfl (r_move rfl rfl) (by decide) ?_
 refine WL.vg (b := false) rfl rfl rfl rfl (r_neBB rfl rfl rfl Try.underlying4) (by decide) ?_
 refine WL.vv rfl rfl (r_pickF rfl rfl rfl) (by decide) ?_
 refine WL.nil (NX.next (CW.no rfl (CW.skip (NX.next ?_))))
 refine CW.sub (E' := [(10, gw10), (13, .int .i64 (K3 : Int)), (14, .int .i64 (K3 : Int))]) ⟨rfl, rfl, rfl, trivial⟩ ?_
 refine CW.seq (CW.region ?_)
 refine WL.vv rfl rfl (r_assign rfl rfl) (by decide) ?_
 refine WL.nil (NX.next ?_)
 refine CW.sub (E' := [(10, gw10), (13, .int .i64 (K3 : Int)), (14, .int .i64 1)]) ⟨rfl, rfl, rfl, trivial⟩ ?_
 refine CW.seq (CW.region ?_)
 refine WL.vv rfl rfl (r_move rfl rfl) (by decide) ?_
 refine WL.vv rfl rfl (r_move rfl rfl) (by decide) ?_
 refine WL.c rfl rfl (r_call (args := #[gw10, .int .i64 1]) (by kernel_rfl) rfl rfl rfl) (by decide) (HHe w26 _ HM) ?_
 rintro _ w27 ⟨rfl, hb27⟩
 have le_w27 := hb27.size
 replace HV := up_keep HV hb27
 replace HU := up_keep HU hb27
 replace p0 := p0.below hb27 p0.lt
 replace HB := bt HB hb27
 replace HG := up_keep HG hb27
 replace Rw9 := Rw9.below hb27 Rw9.lt
 replace HM := R.keep (Keeps.below hb27 fun _ _ h => h) _ _ HM
 replace X_xw23 := R.keep (Keeps.below hb27 fun _ _ h => h) _ _ X_xw23
 replace Y_yw24 := R.keep (Keeps.below hb27 fun _ _ h => h) _ _ Y_yw24
 replace HH := HH.below hb27
 refine ⟨_, rfl, ?_⟩
 refine WL.vv rfl rfl (r_assign rfl rfl) (by decide) ?_
 refine WL.nil (NX.next ?_)
 refine CW.sub (E' := [(13, .int .i64 (K3 : Int)), (14, .int .i64 (K3 : Int))]) ⟨rfl, rfl, trivial⟩ ?_
 refine CW.seq (CW.seq (CW.region ?_))
 refine WL.vv rfl rfl (r_move rfl rfl) (by decide) ?_
 refine WL.vv rfl rfl (r_cmpB (b := false) rfl rfl rfl rfl (by simp [cmpI] <;> omega)) (by decide) ?_
 refine WL.nil (NX.next (CW.no rfl (CW.skip (NX.next ?_))))
 refine CW.sub (E' := [(13, .int .i64 (K3 : Int)), (14, .int .i64 (K3 : Int))]) ⟨rfl, rfl, trivial⟩ ?_
 refine CW.seq (CW.seq (CW.region ?_))
 refine WL.vv rfl rfl (r_move rfl rfl) (by decide) ?_
 refine WL.vv rfl rfl (r_move rfl rfl) (by decide) ?_
 refine WL.vv rfl rfl (r_cmpB (b := false) rfl rfl rfl rfl (by simp [cmpI])) (by decide) ?_
 refine WL.nil (NX.next (CW.no rfl (CW.skip (NX.next ?_))))
 refine CW.sub (E' := []) trivial ?_
 refine CW.seq (CW.region ?_)
 refine WL.vv rfl rfl (r_assign rfl rfl) (by decide) ?_
 refine WL.nil (NX.next (CW.ret ?_))
 exact NX.bodyT rfl rfl ⟨rfl, HB⟩
theorem main (ds : List D) (h : HasTys tbl.tab ty_laws_FnExactAddEntry ds) : Fun Try.prog 4 none ds (.bool true) [] := by
 obtain ⟨l, e, rfl⟩ : ∃ (l : List Entry) (e : Entry), ds = [encS l, enc e] := by
  match ds, h with
  | [d0, d1], h =>
   obtain ⟨l, rfl⟩ := decS_laws_Entry (h.1)
   obtain ⟨e, rfl⟩ := decV_laws_Entry (h.2.1)
   exact ⟨l, e, rfl⟩
 refine Fun.of_callsG (by kernel_rfl) fun w M vs hG hr => ?_
 obtain ⟨v, q, rfl, hv, u, q', rfl, hu, rfl⟩ := hr
 refine (walk l e w v u hv.zero hu.zero).mono ?_
 rintro e w' ⟨rfl, hb⟩
 exact ⟨_, rfl, rfl, hb⟩

set_option maxRecDepth 100000
theorem jf_wf : (Rows.fnExactAddEntryRow.wf (OpenSpec.ofChange Rows.fnExactAddEntrySpec)) = true := by kernel_rfl
theorem jf_reads : (Try.f4.params.all (Try.prog.readableRec ·)) = true := by kernel_rfl
theorem jf_tie : (namedTie Try.prog Rows.fnExactAddEntryRow.named Rows.fnExactAddEntrySpec.vars) = true := by kernel_rfl
theorem jf_inPl : ((Rows.fnExactAddEntryRow.inPlace == Try.prog.inPlace 4)) = true := by kernel_rfl
theorem jf_unfol : ((Rows.fnExactAddEntryRow.unfollowed == Try.prog.unfollowed 4)) = true := by kernel_rfl
theorem jf_recur : ((Rows.fnExactAddEntryRow.recurses == Try.prog.recurses 4)) = true := by kernel_rfl
theorem jf_varsN : ((Rows.fnExactAddEntryRow.named == Try.prog.varsNamed 4)) = true := by kernel_rfl
theorem jf_maps : ((Rows.fnExactAddEntryRow.maps == (Try.f4.params.toList ++ Rows.fnExactAddEntrySpec.plain.varTypes Try.prog).any (Try.prog.mapsRec ·))) = true := by kernel_rfl
theorem jf_ifaces : ((Rows.fnExactAddEntryRow.ifaces == (Try.f4.params.toList ++ Rows.fnExactAddEntrySpec.plain.varTypes Try.prog).any (Try.prog.ifacesRec ·))) = true := by kernel_rfl
theorem jf_mapsO : ((Rows.fnExactAddEntryRow.mapsOut == Try.prog.mapsAmong Try.f4.resultTypes.toList)) = true := by kernel_rfl
theorem jf_loops : ((Rows.fnExactAddEntryRow.loops == (Try.f4.params.toList ++ Rows.fnExactAddEntrySpec.plain.varTypes Try.prog).any (Try.prog.loopsFrom ·))) = true := by kernel_rfl
theorem jf_wide : ((Rows.fnExactAddEntryRow.wideKeys == (Try.f4.params.toList ++ Rows.fnExactAddEntrySpec.plain.varTypes Try.prog ++ Try.f4.resultTypes.toList).any (Try.prog.wideKeysFrom ·))) = true := by kernel_rfl
theorem jf_varR : (Rows.fnExactAddEntrySpec.vars.all (Try.prog.varReadable ·)) = true := by kernel_rfl
theorem jf_resT : (Try.f4.resultTypes.all (fun t => Try.prog.readableRec t && decide (t < Try.prog.types.size))) = true := by kernel_rfl
theorem jf_ifO : ((Rows.fnExactAddEntryRow.ifacesOut == Try.f4.resultTypes.toList.any (Try.prog.ifacesRec ·))) = true := by kernel_rfl
theorem jf_loO : ((Rows.fnExactAddEntryRow.loopsOut == Try.f4.resultTypes.toList.any (Try.prog.loopsFrom ·))) = true := by kernel_rfl
theorem jf_kinds : ((Rows.fnExactAddEntryRow.kinds == (if Rows.fnExactAddEntryRow.domain.isEmpty then [] else Try.f4.params.toList.map fun t => match Try.prog.underlying t with | some (.int k) => some k | _ => none))) = true := by kernel_rfl
theorem jf_veil : ((Rows.fnExactAddEntryRow.veiled == (Try.f4.params.toList ++ Rows.fnExactAddEntrySpec.plain.varTypes Try.prog ++ Try.f4.resultTypes.toList).any (Try.prog.veiledRec ·))) = true := by kernel_rfl
theorem jf_veilF : (Rows.fnExactAddEntryRow.veiledFits Try.prog Try.f4.params.toList (Try.f4.params.toList ++ Rows.fnExactAddEntrySpec.plain.varTypes Try.prog ++ Try.f4.resultTypes.toList)) = true := by kernel_rfl
theorem closed : joinedFacts Try.prog 4 Try.f4 Rows.fnExactAddEntrySpec Rows.fnExactAddEntryRow = true :=
 (and_tt (and_tt (and_tt (and_tt (and_tt (and_tt (and_tt (and_tt (and_tt (and_tt (and_tt (and_tt (and_tt (and_tt (and_tt (and_tt (and_tt (and_tt (and_tt (and_tt (and_tt (and_tt (and_tt (and_tt (and_tt (and_tt (and_tt (and_tt (and_tt (and_tt (and_tt jf_wf jfLaid) jfRowed) jf_reads) jf_tie) rfl) jfStops) rfl) jfKnobs) jf_inPl) jf_unfol) jf_recur) jf_varsN) jf_maps) jf_ifaces) jf_mapsO) jf_loops) jf_wide) jf_varR) jf_resT) jf_ifO) jf_loO) jfKeys) rfl) jfHeard) jfEnter) jfLifted) jfMake) jf_kinds) rfl) jf_veil) jf_veilF)
set_option maxRecDepth 100000 in
theorem lifted (os : Os) (started : os.Started) (H : Type) (enc : TypeId × Value → H) :
  ReturnsInHanded {} Try.checked os 4 .any (Rows.fnExactAddEntrySpec.pre6 enc Try.prog Try.f4 Rows.fnExactAddEntryRow.domain false) (Rows.fnExactAddEntrySpec.post enc Try.prog Try.f4 false true false false) := by
 refine returnsInHanded_of_change (C := Try.checked) jfOwn started (by kernel_rfl) Try.func4
  (ChangeSpec.witness6 (enc := enc) (C := Try.checked) false ⟨#[], #[.slice none 0 0, .agg #[.string ⟨#[]⟩, .slice none 0 0, .int .i64 0, .int .i64 0, .slice none 0 0]], []⟩ 8 (by kernel_rfl) (by kernel_rfl) (by kernel_rfl) (by kernel_rfl)) ?_
 intro W base args ds gs before hval0 hW hcnd _
 have hval : ∀ (j : Nat) t v, Try.f4.params[j]? = some t → args[j]? = some v → Value.okWide Try.prog W .any base t v := hval0
 have hW' := hW
 obtain ⟨p, q, hA0, hV, rfl, hfz, hnd⟩ := hW
 have hA : DataW.TrodAll enc Try.prog W 0 (fun _ => true) true Try.f4.params.toList args.toList ds p := hA0
 rw [Try.params4] at hA hval
 obtain ⟨v0, vs0, d0, ds0, p0, q0, hargs, rfl, rfl, h0, r0⟩ := trodAll_cons hA
 obtain ⟨v1, vs1, d1, ds1, p1, q1, rfl, rfl, rfl, h1, r1⟩ := trodAll_cons r0
 obtain ⟨rfl, rfl, rfl⟩ := trodAll_nil r1
 obtain rfl : args = #[v0, v1] := by cases args; simp_all
 obtain ⟨rfl, rfl⟩ := trodVars_none hV
 have k0 := h0
 have lt0 : ∀ x ∈ p0, x.block < W.heap.size := by obtain ⟨m, hm⟩ := k0; exact DataW.trod_lt m _ _ _ hm
 have k1 := h1
 have lt1 : ∀ x ∈ p1, x.block < W.heap.size := by obtain ⟨m, hm⟩ := k1; exact DataW.trod_lt m _ _ _ hm
 obtain ⟨x0, y0, z0⟩ := open_arg tbl_ok (by kernel_rfl) (hval 0 22 v0 rfl rfl) h0
 obtain ⟨x1, y1, z1⟩ := open_arg tbl_ok (by kernel_rfl) (hval 1 36 v1 rfl rfl) h1
 clear hA0 hval0
 refine ((law_run (main [x0, x1] ⟨y0, y1, trivial⟩) ⟨fun p hp => hp.elim, trivial, Nat.zero_le _⟩ (show Rs W M0 [x0, x1] [v0, v1] from ⟨_, _, rfl, z0, ⟨_, _, rfl, z1, rfl⟩⟩))).mono fun e W' ⟨he, bel⟩ => ?_
 subst he
 exact ⟨_, rfl, _, _, _, [], _, [], hW', trodAll_mk1 (shut_bool Try.underlying4 _), (trodAll_cons_mk (Below.trod jfLaid (by kernel_rfl) (of_decide_eq_true (by kernel_rfl)) k0 bel lt0) (trodAll_cons_mk (Below.trod jfLaid (by kernel_rfl) (of_decide_eq_true (by kernel_rfl)) k1 bel lt1) trodAll_mk0)), rfl, bel.frame _, fun h => by cases h⟩
theorem over : Rows.fnExactAddEntryRow.holds Try.pinned (OpenSpec.ofChange Rows.fnExactAddEntrySpec) :=
 OpenClaim.holds_of_wide 4 Try.f4 rfl rfl rfl rfl rfl rfl rfl ⟨rfl, rfl, rfl, rfl, rfl⟩ rfl rfl rfl rfl rfl (by kernel_rfl) Try.func4 closed
  (of_decide_eq_true (by kernel_rfl)) (by unfold Func.isWrapper; first | (rw [if_pos (by decide +kernel)]; kernel_rfl) | (rw [if_neg (by decide +kernel)]; exact ⟨rfl, rfl⟩))
  (fun os started H enc _ => lifted os started H enc)
theorem proved : Rows.FnExactAddEntrySaid := over
#print axioms proved
end Go.Proofs.Ytjmakbnblpjkhaa.lawFnExactAddEntry
