/- Copies and answers whose memory is new: nothing in them is older than the call, and all of it may be written. -/
import Derived.Test.YtjmakbnblpjkhaaD11
import Derived.Maps.AppendAt
import Derived.ArgAppend
import Derived.Test.YtjmakbnblpjkhaaD10
import Derived.PlainAid
import Derived.Test.YtjmakbnblpjkhaaD0
set_option linter.unusedVariables false
set_option linter.unusedSimpArgs false
set_option maxRecDepth 100000
set_option linter.unusedSectionVars false
namespace Go.Proofs.Ytjmakbnblpjkhaa
open Go.RowKit Go
theorem live_free {B : Nat} {w : World} {b o len cap n : Nat} {s : Option Nat} (h : LiveAt B w (.slice (some ⟨b, o, s⟩) len cap) n) (hc : 0 < cap) : B ≤ b ∧ ∀ x y, w.frozen? ⟨b, x, y⟩ = false := by
 obtain ⟨_, h2, cells, T, h3, _⟩ := h b o s len cap rfl hc
 refine ⟨h2, fun x y => ?_⟩
 unfold World.frozen?
 rw [h3]
 simp
theorem nf_flat {w : World} {M : Addr → Prop} {rows : List (List D)} {v : Value} {n B : Nat} (hr : R w M (.sl rows) v) (hn : ∀ r ∈ rows, r.length = n) (hlf : ∀ r ∈ rows, ∀ d ∈ r, leafD d = true) (hl : LiveAt B w v n) : R w (NF w B) (.sl rows) v := by
 have hr0 := hr
 obtain ⟨a, len, cap, rfl, h1, h2, h3, h4, h5⟩ := hr
 rcases a with _ | ⟨b, o, s⟩
 ·have : rows = [] := List.eq_nil_of_length_eq_zero (by have := h4 rfl; omega)
  subst this
  exact ⟨none, len, cap, rfl, h1, h2, h3, h4, fun b o s e => by cases e⟩
 ·refine flat_of hn h1 h2 h3 (h5 b o s rfl).1 fun i j r d hi hj => ?_
  obtain ⟨u, c1, c2, c3⟩ := flat_cells hn hr0 hi hj
  have hlt := (List.getElem?_eq_some_iff.1 hi).1
  obtain ⟨q1, q2⟩ := live_free hl (by omega)
  refine ⟨u, c1, fun hm => ?_, leaf_move (hlf r (List.mem_of_getElem? hi) d (List.mem_of_getElem? hj)) c3⟩
  rcases hm with hm | hm
  ·exact absurd q1 (by simpa using hm)
  ·rw [q2] at hm; cases hm
theorem str_flat (l : List ByteArray) : (∀ r ∈ l.map Enc.cells, r.length = 1) ∧ ∀ r ∈ l.map Enc.cells, ∀ d ∈ r, leafD d = true := by
 constructor
 ·intro r hr; obtain ⟨x, _, rfl⟩ := List.mem_map.1 hr; rfl
 ·intro r hr d hd
  obtain ⟨x, _, rfl⟩ := List.mem_map.1 hr
  simp [cells_str] at hd; subst hd; rfl
theorem need_flat (l : List Need) : (∀ r ∈ l.map Enc.cells, r.length = 4) ∧ ∀ r ∈ l.map Enc.cells, ∀ d ∈ r, leafD d = true := by
 constructor
 ·intro r hr; obtain ⟨x, _, rfl⟩ := List.mem_map.1 hr; rfl
 ·intro r hr d hd
  obtain ⟨x, _, rfl⟩ := List.mem_map.1 hr
  simp [cells_Need] at hd; rcases hd with rfl | rfl | rfl | rfl <;> rfl
/-! The copy of an entry; of entries -/
theorem cR_toEntry (x : Entry) (h : Sm.sm x) : FunR Try.prog 14 none [enc x] (enc x) [] [(1, 1), (4, 4)] := by
 refine FunR.ofV vc_laws_toEntry_ok ty_laws_toEntry_ok rt_laws_toEntry_ok rfl ?_ (fun hfit => ?_)
 ·exact ⟨ty_laws_Entry x, trivial⟩
 unfold vc_laws_toEntry
 ((first | refine den_call ?_ (c_laws_toStringS x.recipe (sm_list.1 (h.2.1)).1) (ty_strS _) ?_ | refine den_callR ?_ (c_laws_toStringS x.recipe (sm_list.1 (h.2.1)).1) (ty_strS _) ?_ | refine den_call ?_ (.ofR (c_laws_toStringS x.recipe (sm_list.1 (h.2.1)).1)) (ty_strS _) ?_); (focus (simp only [VC.den, E.den, dEq, gsH_nil, and_true, cells_Entry]; try exact rfl)); (simp only [cA]))
 ((first | refine den_call ?_ (c_laws_toVersion x.ver) (ty_Ver _) ?_ | refine den_callR ?_ (c_laws_toVersion x.ver) (ty_Ver _) ?_ | refine den_call ?_ (.ofR (c_laws_toVersion x.ver)) (ty_Ver _) ?_); (focus (simp only [VC.den, E.den, dEq, gsH_nil, and_true, cells_Entry]; try exact rfl)); (simp only [cA]))
 ((first | refine den_call ?_ (c_laws_toNeedS x.needs (sm_list.1 (h.2.2)).1 (sm_list.1 (h.2.2)).2) (ty_NeedS _) ?_ | refine den_callR ?_ (c_laws_toNeedS x.needs (sm_list.1 (h.2.2)).1 (sm_list.1 (h.2.2)).2) (ty_NeedS _) ?_ | refine den_call ?_ (.ofR (c_laws_toNeedS x.needs (sm_list.1 (h.2.2)).1 (sm_list.1 (h.2.2)).2)) (ty_NeedS _) ?_); (focus (simp only [VC.den, E.den, dEq, gsH_nil, and_true, cells_Entry]; try exact rfl)); (simp only [cA]))
 exact den_ret (by simp [E.den, enc, cells_Entry, cells_Ver])
theorem w_toEntry (x : Entry) (h : Sm.sm x) {w : World} {v : Value} (hr : R w (fun _ => False) (enc x) v) :
  Calls Try.prog 14 #[v] w fun e w' => ∃ y0 y1 y2 y3 y4, e = .returned (.agg #[y0, y1, y2, y3, y4]) ∧ Rs w' (NF w' w.heap.size) (Enc.cells x) [y0, y1, y2, y3, y4] ∧ Below w.heap.size w w' := by
 refine ((cR_toEntry x h).2 w _ 0 [v] (rdy0 w) ⟨_, [], rfl, hr, rfl⟩ (fun cs h => by cases h)).mono ?_
 rintro e w' ⟨v', rfl, ⟨cs, rfl, h2⟩, h3, h4, _⟩
 obtain ⟨y0, _, hc, ⟨r01, r02⟩, y1, _, rfl, r1, y2, _, rfl, ⟨r21, r22⟩, y3, _, rfl, ⟨r31, r32⟩, y4, _, rfl, r4, hx⟩ := h2
 have hx : _ = [] := hx
 subst hx
 have hcs : cs = #[y0, y1, y2, y3, y4] := by rw [← Array.toList_inj, hc]
 subst hcs
 subst r01 r21 r31
 obtain ⟨a1, l1, c1, hy1, z1⟩ := (show R w' _ (.sl (x.recipe.map Enc.cells)) y1 from r1)
 obtain ⟨a4, l4, c4, hy4, z4⟩ := (show R w' _ (.sl (x.needs.map Enc.cells)) y4 from r4)
 have e1 := h4.1 (1, 1) (by simp)
 have e4 := h4.1 (4, 4) (by simp)
 have f1 : rtV (.agg #[.string x.name, y1, .int .i64 x.ver.maj, .int .i64 x.ver.min, y4]) (1, 1) = y1 := by
  subst hy1 hy4; rfl
 have f4 : rtV (.agg #[.string x.name, y1, .int .i64 x.ver.maj, .int .i64 x.ver.min, y4]) (4, 4) = y4 := by
  subst hy1 hy4; rfl
 rw [f1] at e1
 rw [f4] at e4
 refine ⟨_, _, _, _, _, rfl, ⟨_, _, rfl, ⟨rfl, r02⟩, _, _, rfl, ?_, _, _, rfl, ⟨rfl, r22⟩, _, _, rfl, ⟨rfl, r32⟩, _, _, rfl, ?_, rfl⟩, h3.to_below⟩
 ·exact nf_flat r1 (str_flat _).1 (str_flat _).2 e1
 ·exact nf_flat r4 (need_flat _).1 (need_flat _).2 e4
theorem own_less {w w' : World} {B g : Nat} {p : Addr} (hf : w'.frozen? p = w.frozen? p) : own (NF w' B) g p → own (NF w B) g p := by
 rintro ((h | h) | h)
 ·exact .inl (.inl h)
 ·exact .inl (.inr (by rw [← hf]; exact h))
 ·exact .inr h
theorem RowN.keepNF {w w' : World} {B g : Nat} {T : TypeId} {len n k : Nat} {rows : List (List D)} (h : RowN w (own (NF w B) g) g T len n k rows) (hb : Below w.heap.size w w') : RowN w' (own (NF w' B) g) g T len n k rows := by
 obtain ⟨C, h1, h2, vs, h3, h4⟩ := h
 exact ⟨C, h1.below hb h1.lt, h2, vs, Rs.keep (Keeps.below hb fun p hp hm => own_less (fro_of_block (hb.block p.block hp)) hm) _ _ h3, h4⟩
theorem RowN.turn {w : World} {M M' : Addr → Prop} {g : Nat} {T : TypeId} {len n k : Nat} {rows : List (List D)} (h : RowN w M g T len n k rows) (hM : ∀ p, M' p → M p) : RowN w M' g T len n k rows := by
 obtain ⟨C, h1, h2, vs, h3, h4⟩ := h
 exact ⟨C, h1, h2, vs, Rs.keep (fun p v hp hn => ⟨hp, fun hm => hn (hM p hm)⟩) _ _ h3, h4⟩
theorem fro_setN (p : Addr) (g : Nat) : ∀ (us : List Value) (w : World) (o : Nat), (setN w g o us).frozen? p = w.frozen? p
 | [], _, _ => rfl
 | u :: r, w, o => by
  unfold setN
  rw [fro_setN p g r, fro_setCell]
theorem f_toEntryS (l : List Entry) (hs : l.length ≤ 1048576) (hx : ∀ k, k < l.length → Sm.sm (nth l k)) (w : World) (v : Value) (hv0 : R w (fun _ => False) (encS l) v) :
  Calls Try.prog 7 #[v] w fun e w' => ∃ v', e = .returned v' ∧ R w' (NF w' w.heap.size) (encS l) v' ∧ Below w.heap.size w w' := by
 have hlen := map_len (n := 5) (fun x => rfl) l
 obtain ⟨a, cap, rfl, hml, hel⟩ := arg_slice hlen hv0
 rw [List.length_map] at hml ⊢
 have HE := Lib.hid hel
 clear hel hv0
 have hmk := fun W => run_make_at (P := Try.prog) 24 42 (z := .agg #[.string ⟨#[]⟩, .slice none 0 0, .int .i64 0, .int .i64 0, .slice none 0 0]) (size := 5) (bytes := 80) Try.underlying24 (by kernel_rfl) .i64 .i64 l.length (by omega) (by omega) W
 go_enter Try.func7, Try.ntmps7
 go_wp2
 go_loopw [4] (fun i wr => Below w.heap.size w wr ∧ ∃ k : Nat, k ≤ l.length ∧ i = .int .i64 k ∧ RowN wr (own (NF wr w.heap.size) w.heap.size) w.heap.size 42 l.length 5 k (l.map Enc.cells)) (fun i _ => l.length - (intOf i).toNat)
 case atStart => exact ⟨by go_grown, 0, by omega, rfl, RowN.new (RBlk.new _ _ _) (by rw [size_madeCells])⟩
 case round =>
  obtain ⟨hB, k, hk, rfl, hR⟩ := hrel
  have hBs := hB.size
  have hgl := hR.lt
  by_cases hlt : k < l.length
  ·have hrow := get_map l (k := k) (by omega)
   obtain ⟨b, o, us, rfl, hul, hus, hcell⟩ := HE.out k _ hrow
   obtain ⟨u0, u1, u2, u3, u4, rfl⟩ := len_5 hul
   have he0 := cell_keep hB (hcell 0 _ rfl); have he1 := cell_keep hB (hcell 1 _ rfl); have he2 := cell_keep hB (hcell 2 _ rfl); have he3 := cell_keep hB (hcell 3 _ rfl); have he4 := cell_keep hB (hcell 4 _ rfl)
   (try simp only [Nat.add_zero, Nat.mul_one] at he0)
   have hi0 : (0 : Int) ≤ (k : Int) := by omega
   have hi1 : (k : Int) < (l.length : Int) := by omega
   have hus' : R wr (fun _ => False) (enc (nth l k)) (.agg #[u0, u1, u2, u3, u4]) := ⟨_, rfl, Rs.keep (Keeps.below hB fun _ _ h => h) _ _ hus⟩
   have HC := Lib.hid (fun (w0 : World) (hb : Below wr.heap.size wr w0) => w_toEntry (nth l k) (hx k hlt) (R.keep (Keeps.below hb fun _ _ h => h) _ _ hus'))
   have HBK := Lib.hid hR
   clear hR hus hus' hcell
   go_wp2_with fail
   refine (HC.out _ (by go_grown)).mono ?_
   rintro e w1 ⟨y0, y1, y2, y3, y4, rfl, hr1, hb1⟩
   have hR1 := HBK.out.keepNF hb1
   have hr1' : Rs w1 (own (NF w1 w.heap.size) w.heap.size) (Enc.cells (nth l k)) [y0, y1, y2, y3, y4] := Rs.keep (fun p u hp hn => ⟨hp, fun hm => hn (by
    rcases hm with (hm | hm) | hm
    ·exact .inl (by omega)
    ·exact .inr hm
    ·exact .inl (by omega))⟩) _ _ hr1
   have hone := cells_one (ty_Entry (nth l k)) hr1
   have hbk := hR1.blkN
   obtain ⟨hst0, hbk0⟩ := hbk.store (P := Try.prog) (o := k * 5) (v := y0) (by have := off_lt (n := 5) (j := 0) hlt (by decide); omega) (hone _ (by simp)); obtain ⟨hst1, hbk1⟩ := hbk0.store (P := Try.prog) (o := k * 5 + 1) (v := y1) (by have := off_lt (n := 5) (j := 1) hlt (by decide); omega) (hone _ (by simp)); obtain ⟨hst2, hbk2⟩ := hbk1.store (P := Try.prog) (o := k * 5 + 2) (v := y2) (by have := off_lt (n := 5) (j := 2) hlt (by decide); omega) (hone _ (by simp)); obtain ⟨hst3, hbk3⟩ := hbk2.store (P := Try.prog) (o := k * 5 + 3) (v := y3) (by have := off_lt (n := 5) (j := 3) hlt (by decide); omega) (hone _ (by simp)); obtain ⟨hst4, hbk4⟩ := hbk3.store (P := Try.prog) (o := k * 5 + 4) (v := y4) (by have := off_lt (n := 5) (j := 4) hlt (by decide); omega) (hone _ (by simp))
   have hx := (hR1.step hlt hrow hlen hr1').turn (M' := own (NF (setN w1 w.heap.size (k * 5) [y0, y1, y2, y3, y4]) w.heap.size) w.heap.size) fun p hm => own_less (fro_setN _ _ _ _ _) hm
   have HX := Lib.hid hx
   clear hx hr1 hr1' hR1 hbk hbk0 hbk1 hbk2 hbk3 hbk4
   go_wp2
   exact ⟨⟨by have h2 := bt hB hb1; go_grown, k + 1, by omega, by go_num, HX.out⟩, by simp [intOf]; omega⟩
  ·go_wp2
   go_ret
   obtain rfl : k = l.length := by omega
   refine ⟨_, rfl, ?_, hB⟩
   refine hR.done (by simp) hlen (fun p hp hm => ?_) (by unfold maxLen; omega)
   rcases hm with hm | hm
   ·omega
   ·have := hR.free p.off
    have e : wr.frozen? p = wr.frozen? ⟨w.heap.size, p.off, none⟩ := by
     unfold World.frozen?
     rw [hp]
    rw [e, this] at hm; cases hm
end Go.Proofs.Ytjmakbnblpjkhaa
/- Marks of entries whose rows lie apart: what each cell holds afterwards. -/
namespace Go.Proofs.Ytjmakbnblpjkhaa
open Go.RowKit Go
structure SepE (w : World) (b o : Nat) (rb nb : Nat → Nat) (l : List Entry) (u1 u4 : Nat → Value) : Prop where
 c0 : ∀ a, a < l.length → w.cell? ⟨b, o + a * 5, none⟩ = some (.string (nth l a).name) ∧ (nth l a).name.size ≤ maxLen
 c1 : ∀ a, a < l.length → w.cell? ⟨b, o + a * 5 + 1, none⟩ = some (u1 a)
 c2 : ∀ a, a < l.length → w.cell? ⟨b, o + a * 5 + 2, none⟩ = some (.int .i64 (nth l a).ver.maj) ∧ IntKind.i64.min ≤ (nth l a).ver.maj ∧ (nth l a).ver.maj ≤ IntKind.i64.max
 c3 : ∀ a, a < l.length → w.cell? ⟨b, o + a * 5 + 3, none⟩ = some (.int .i64 (nth l a).ver.min) ∧ IntKind.i64.min ≤ (nth l a).ver.min ∧ (nth l a).ver.min ≤ IntKind.i64.max
 c4 : ∀ a, a < l.length → w.cell? ⟨b, o + a * 5 + 4, none⟩ = some (u4 a)
 r1 : ∀ a, a < l.length → R w (fun p => p.block ≠ rb a ∨ w.frozen? p = true) (encS (nth l a).recipe) (u1 a)
 r4 : ∀ a, a < l.length → R w (fun p => p.block ≠ nb a ∨ w.frozen? p = true) (encS (nth l a).needs) (u4 a)
 fr : ∀ x y, w.frozen? ⟨b, x, y⟩ = false
 rbb : ∀ a, a < l.length → rb a ≠ b
 nbb : ∀ a, a < l.length → nb a ≠ b
 rn : ∀ a c, a < l.length → c < l.length → rb a ≠ nb c
 rr : ∀ a c, a < l.length → c < l.length → a ≠ c → rb a ≠ rb c
 nn : ∀ a c, a < l.length → c < l.length → a ≠ c → nb a ≠ nb c
theorem SepE.read {w : World} {b o : Nat} {rb nb : Nat → Nat} {l : List Entry} {u1 u4 : Nat → Value} (h : SepE w b o rb nb l u1 u4) {cap : Nat} (h1 : l.length ≤ cap) (h2 : cap ≤ maxLen) : R w (fun _ => False) (encS l) (.slice (some ⟨b, o, none⟩) l.length cap) := by
 show R w _ (.sl (l.map Enc.cells)) _
 refine flat_of (ent_len l) (by simp) h1 h2 (fun _ => rfl) fun i j r d hi hj => ?_
 have hil : i < l.length := by
  have := (List.getElem?_eq_some_iff.1 hi).1
  simpa using this
 rw [get_map l hil] at hi
 cases hi
 match j, hj with
 | 0, hj => cases hj; exact ⟨_, (h.c0 i hil).1, fun hm => hm, rfl, (h.c0 i hil).2⟩
 | 1, hj => cases hj; exact ⟨_, h.c1 i hil, fun hm => hm, R.zero (h.r1 i hil)⟩
 | 2, hj => cases hj; exact ⟨_, (h.c2 i hil).1, fun hm => hm, rfl, (h.c2 i hil).2⟩
 | 3, hj => cases hj; exact ⟨_, (h.c3 i hil).1, fun hm => hm, rfl, (h.c3 i hil).2⟩
 | 4, hj => cases hj; exact ⟨_, h.c4 i hil, fun hm => hm, R.zero (h.r4 i hil)⟩
noncomputable def mkStr (k n : Nat) : List ByteArray := (List.range n).map fun a => mkT (k + a)
noncomputable def mkNeed (k n : Nat) : List Need := (List.range n).map fun a => ⟨((k + 4 * a : Nat) : Int), mkT (k + 4 * a + 1), ⟨((k + 4 * a + 1 + 1 : Nat) : Int), ((k + 4 * a + 1 + 1 + 1 : Nat) : Int)⟩⟩
theorem mkStr_rows (k : Nat) (l : List ByteArray) : mS k l l.length = (mkStr k l.length).map Enc.cells := by
 unfold mS mkStr rowsM
 rw [List.map_map]
 exact List.map_congr_left fun a ha => by
  rw [if_pos (by simpa using ha)]; rfl
theorem mkNeed_rows (k : Nat) (l : List Need) : mN k l l.length = (mkNeed k l.length).map Enc.cells := by
 unfold mN mkNeed rowsM
 rw [List.map_map]
 exact List.map_congr_left fun a ha => by
  rw [if_pos (by simpa using ha)]; rfl
noncomputable def markE (k : Nat) (l : List Entry) (a : Nat) : Entry :=
 ⟨mkT (k + cntTo l a), mkStr (k + cntTo l a + 1) (nth l a).recipe.length, ⟨((k + cntTo l a + 1 + (nth l a).recipe.length : Nat) : Int), ((k + cntTo l a + 1 + (nth l a).recipe.length : Nat) : Int) + 1⟩, mkNeed (k + cntTo l a + 1 + (nth l a).recipe.length + 2) (nth l a).needs.length⟩
noncomputable def mixL (k : Nat) (l : List Entry) (i : Nat) : List Entry := (List.range l.length).map fun a => if a < i then markE k l a else nth l a
theorem mixL_len (k : Nat) (l : List Entry) (i : Nat) : (mixL k l i).length = l.length := by simp [mixL]
theorem mixL_at {k : Nat} {l : List Entry} {i a : Nat} (h : a < l.length) : nth (mixL k l i) a = if a < i then markE k l a else nth l a := by
 simp [mixL, nth, List.getD_eq_getElem?_getD, h]
theorem mixL_zero (k : Nat) (l : List Entry) : mixL k l 0 = l := by
 apply List.ext_getElem
 ·simp [mixL]
 ·intro i h1 h2
  simp [mixL, nth, List.getD_eq_getElem?_getD, h2]
theorem SepE.step {w w' : World} {b o : Nat} {rb nb : Nat → Nat} {k : Nat} {l : List Entry} {i : Nat} {u1 u4 : Nat → Value} (h : SepE w b o rb nb (mixL k l i) u1 u4) (hi : i < l.length)
  (hk : ∀ p v, w.cell? p = some v → p.block ≠ rb i → p.block ≠ nb i → p ≠ ⟨b, o + i * 5, none⟩ → p ≠ ⟨b, o + i * 5 + 2, none⟩ → p ≠ ⟨b, o + i * 5 + 3, none⟩ → w'.cell? p = some v)
  (hf : ∀ p : Addr, p.block < w.heap.size → w'.frozen? p = w.frozen? p) (hb : b < w.heap.size)
  (q0 : w'.cell? ⟨b, o + i * 5, none⟩ = some (.string (markE k l i).name)) (q0s : (markE k l i).name.size ≤ maxLen)
  (q2 : w'.cell? ⟨b, o + i * 5 + 2, none⟩ = some (.int .i64 (markE k l i).ver.maj)) (q3 : w'.cell? ⟨b, o + i * 5 + 3, none⟩ = some (.int .i64 (markE k l i).ver.min))
  (qi : ((markE k l i).ver.maj : Int) ≤ 9223372036854775806 ∧ 0 ≤ (markE k l i).ver.maj ∧ (markE k l i).ver.min ≤ 9223372036854775807 ∧ 0 ≤ (markE k l i).ver.min)
  (q1 : R w' (fun p => p.block ≠ rb i ∨ w'.frozen? p = true) (encS (markE k l i).recipe) (u1 i)) (q4 : R w' (fun p => p.block ≠ nb i ∨ w'.frozen? p = true) (encS (markE k l i).needs) (u4 i)) : SepE w' b o rb nb (mixL k l (i + 1)) u1 u4 := by
 have hl := mixL_len k l i
 have hl' := mixL_len k l (i + 1)
 have hat : ∀ a, a < l.length → nth (mixL k l (i + 1)) a = if a = i then markE k l i else nth (mixL k l i) a := fun a ha => by
  rw [mixL_at ha, mixL_at ha]
  by_cases e : a = i
  ·subst e; simp
  ·have : a < i + 1 ↔ a < i := by omega
   simp [e, this]
 have hib : rb i ≠ b := h.rbb i (by rw [hl]; exact hi)
 have hin : nb i ≠ b := h.nbb i (by rw [hl]; exact hi)
 have kc : ∀ {a j : Nat} {v : Value}, a ≠ i → j < 5 → w.cell? ⟨b, o + a * 5 + j, none⟩ = some v → w'.cell? ⟨b, o + a * 5 + j, none⟩ = some v := fun {a j v} ha hj hc =>
  hk _ _ hc (fun e => hib e.symm) (fun e => hin e.symm) (fun e => by have := congrArg Addr.off e; simp at this; omega) (fun e => by have := congrArg Addr.off e; simp at this; omega) (fun e => by have := congrArg Addr.off e; simp at this; omega)
 have ki : ∀ {j : Nat} {v : Value}, (j = 1 ∨ j = 4) → w.cell? ⟨b, o + i * 5 + j, none⟩ = some v → w'.cell? ⟨b, o + i * 5 + j, none⟩ = some v := fun {j v} hj hc =>
  hk _ _ hc (fun e => hib e.symm) (fun e => hin e.symm) (fun e => by have := congrArg Addr.off e; simp at this; omega) (fun e => by have := congrArg Addr.off e; simp at this; omega) (fun e => by have := congrArg Addr.off e; simp at this; omega)
 refine ⟨fun a ha => ?_, fun a ha => ?_, fun a ha => ?_, fun a ha => ?_, fun a ha => ?_, fun a ha => ?_, fun a ha => ?_, fun x y => ?_, fun a ha => h.rbb a (by rw [hl]; rw [hl'] at ha; exact ha), fun a ha => h.nbb a (by rw [hl]; rw [hl'] at ha; exact ha), fun a c ha hc => h.rn a c (by rw [hl]; rw [hl'] at ha; exact ha) (by rw [hl]; rw [hl'] at hc; exact hc), fun a c ha hc => h.rr a c (by rw [hl]; rw [hl'] at ha; exact ha) (by rw [hl]; rw [hl'] at hc; exact hc), fun a c ha hc => h.nn a c (by rw [hl]; rw [hl'] at ha; exact ha) (by rw [hl]; rw [hl'] at hc; exact hc)⟩
 all_goals (try rw [hl'] at ha)
 ·rw [hat a ha]
  by_cases e : a = i
  ·subst e; rw [if_pos rfl]; exact ⟨q0, q0s⟩
  ·rw [if_neg e]
   have := h.c0 a (by rw [hl]; exact ha)
   exact ⟨kc (j := 0) e (by omega) this.1, this.2⟩
 ·by_cases e : a = i
  ·subst e; exact ki (.inl rfl) (h.c1 a (by rw [hl]; exact ha))
  ·exact kc e (by omega) (h.c1 a (by rw [hl]; exact ha))
 ·rw [hat a ha]
  by_cases e : a = i
  ·subst e; rw [if_pos rfl]; exact ⟨q2, by rw [i64min]; omega, by rw [i64max]; omega⟩
  ·rw [if_neg e]
   have := h.c2 a (by rw [hl]; exact ha)
   exact ⟨kc e (by omega) this.1, this.2⟩
 ·rw [hat a ha]
  by_cases e : a = i
  ·subst e; rw [if_pos rfl]; exact ⟨q3, by rw [i64min]; omega, by rw [i64max]; omega⟩
  ·rw [if_neg e]
   have := h.c3 a (by rw [hl]; exact ha)
   exact ⟨kc e (by omega) this.1, this.2⟩
 ·by_cases e : a = i
  ·subst e; exact ki (.inr rfl) (h.c4 a (by rw [hl]; exact ha))
  ·exact kc e (by omega) (h.c4 a (by rw [hl]; exact ha))
 ·rw [hat a ha]
  by_cases e : a = i
  ·subst e; rw [if_pos rfl]; exact q1
  ·rw [if_neg e]
   refine R.keep (fun p v hp hn => ?_) _ _ (h.r1 a (by rw [hl]; exact ha))
   have hpb : p.block = rb a := Classical.byContradiction fun hq => hn (.inl hq)
   have d1 := h.rr a i (by rw [hl]; exact ha) (by rw [hl]; exact hi) e
   have d2 := h.rn a i (by rw [hl]; exact ha) (by rw [hl]; exact hi)
   have d3 := h.rbb a (by rw [hl]; exact ha)
   refine ⟨hk p v hp (by rw [hpb]; exact d1) (by rw [hpb]; exact d2) (fun e2 => d3 (by rw [← hpb, e2])) (fun e2 => d3 (by rw [← hpb, e2])) (fun e2 => d3 (by rw [← hpb, e2])), fun hm => hn (hm.imp id fun hq => by rw [← hf p (block_lt_of_cell hp)]; exact hq)⟩
 ·rw [hat a ha]
  by_cases e : a = i
  ·subst e; rw [if_pos rfl]; exact q4
  ·rw [if_neg e]
   refine R.keep (fun p v hp hn => ?_) _ _ (h.r4 a (by rw [hl]; exact ha))
   have hpb : p.block = nb a := Classical.byContradiction fun hq => hn (.inl hq)
   have d1 := h.nn a i (by rw [hl]; exact ha) (by rw [hl]; exact hi) e
   have d2 := h.rn i a (by rw [hl]; exact hi) (by rw [hl]; exact ha)
   have d3 := h.nbb a (by rw [hl]; exact ha)
   refine ⟨hk p v hp (by rw [hpb]; exact d2.symm) (by rw [hpb]; exact d1) (fun e2 => d3 (by rw [← hpb, e2])) (fun e2 => d3 (by rw [← hpb, e2])) (fun e2 => d3 (by rw [← hpb, e2])), fun hm => hn (hm.imp id fun hq => by rw [← hf p (block_lt_of_cell hp)]; exact hq)⟩
 ·rw [hf _ hb]; exact h.fr x y
def NO (w : World) (b : Nat) : Addr → Prop := fun p => p.block ≠ b ∨ w.frozen? p = true ∨ w.heap.size ≤ p.block
theorem no_of {w : World} {b : Nat} {d : D} {v : Value} (h : R w (fun p => p.block ≠ b ∨ w.frozen? p = true) d v) : R w (NO w b) d v := R.less (R.up h) fun p hp => by
 rcases hp with hp | hp | hp
 ·exact .inl (.inl hp)
 ·exact .inl (.inr hp)
 ·exact .inr hp
theorem no_blk {w : World} {b : Nat} {p : Addr} (h : ¬ NO w b p) : p.block = b ∧ w.frozen? p = false ∧ p.block < w.heap.size :=
 ⟨Classical.byContradiction fun e => h (.inl e), by cases hf : w.frozen? p with | false => rfl | true => exact absurd (.inr (.inl hf)) h, Nat.lt_of_not_le fun e => h (.inr (.inr e))⟩
theorem bar_alt {A : Addr → Prop} {w w' : World} {b : Nat} {d : D} {v : Value} (h : R w (fun p => p.block ≠ b ∨ w.frozen? p = true) d v) (ha : Alt A w w') (hA : ∀ p, A p → p.block ≠ b) : R w' (fun p => p.block ≠ b ∨ w'.frozen? p = true) d v :=
 R.keep (ha.keeps (fun p hp => .inl (hA p hp)) fun p hp hm => hm.imp id fun hf => by rw [← ha.fro p hp]; exact hf) _ _ h
theorem no_alt {A : Addr → Prop} {w0 w w' : World} {b : Nat} {d : D} {v : Value} (h : R w (NO w0 b) d v) (hs : w0.heap.size ≤ w.heap.size) (hf : ∀ p, p.block < w0.heap.size → w'.frozen? p = w0.frozen? p) (ha : Alt A w w') (hA : ∀ p, A p → p.block ≠ b) : R w' (fun p => p.block ≠ b ∨ w'.frozen? p = true) d v :=
 R.keep (fun p u hp hn => by
  obtain ⟨q1, q2, q3⟩ := no_blk hn
  exact ⟨ha.keep p u hp fun hq => hA p hq q1, fun hm => hm.elim (fun e => e q1) fun e => by rw [hf p q3, q2] at e; cases e⟩) _ _ h
theorem m_EntryX (l : List Entry) (k : Nat) (w : World) (b o cap : Nat) (rb nb : Nat → Nat) (u1 u4 : Nat → Value) (h : SepE w b o rb nb l u1 u4) (hbw : b < w.heap.size) (hk : k + cntTo l l.length ≤ 1152921504606846970) (hll : l.length ≤ 1152921504606846976) :
  Calls Try.prog 10 #[.slice (some ⟨b, o, none⟩) l.length cap, .int .i64 k] w fun e w' => e = .returned (.int .i64 ((k + cntTo l l.length : Nat) : Int)) ∧ Alt (fun p => p.block = b ∨ ∃ a, a < l.length ∧ (p.block = rb a ∨ p.block = nb a)) w w' ∧ SepE w' b o rb nb (mixL k l l.length) u1 u4 := by
 have hmx : (l.length : Int) ≤ 1152921504606846976 := by omega
 have H0 := Lib.hid (show SepE w b o rb nb (mixL k l 0) u1 u4 by rw [mixL_zero]; exact h)
 clear h
 go_enter Try.func10, Try.ntmps10
 go_wp2
 go_loopw [1, 5] (fun kk ii wr => Alt (fun p => p.block = b ∨ ∃ a, a < l.length ∧ (p.block = rb a ∨ p.block = nb a)) w wr ∧ ∃ i K : Nat, i ≤ l.length ∧ K = k + cntTo l i ∧ kk = .int .i64 (K : Int) ∧ ii = .int .i64 (i : Int) ∧ SepE wr b o rb nb (mixL k l i) u1 u4) (fun _ ii _ => l.length - (intOf ii).toNat)
 case atStart => exact ⟨Alt.refl _ _, 0, k, by omega, rfl, rfl, rfl, H0.out⟩
 case round =>
  obtain ⟨hA, i, K, hi, hK, rfl, rfl, hS⟩ := hrel
  have HA := Lib.hid hA
  have HK := Lib.hid hK
  have HS := Lib.hid hS
  clear hA hS
  by_cases hlt : i < l.length
  ·have hi0 : (0 : Int) ≤ (i : Int) := by omega
   have hi1 : (i : Int) < (l.length : Int) := by omega
   have hcm2 := cntTo_mono l (show i + 1 ≤ l.length by omega)
   simp only [cntTo, cntE] at hcm2
   have hKb : K + 3 + (nth l i).recipe.length + 4 * (nth l i).needs.length ≤ 1152921504606846970 := by omega
   have hml : i < (mixL k l i).length := by rw [mixL_len]; exact hlt
   have hat : nth (mixL k l i) i = nth l i := by rw [mixL_at hlt, if_neg (by omega)]
   have hib : rb i ≠ b := HS.out.rbb i hml
   have hin : nb i ≠ b := HS.out.nbb i hml
   have hrn : rb i ≠ nb i := HS.out.rn i i hml hml
   have HNE := Lib.hid (show rb i ≠ b ∧ nb i ≠ b ∧ rb i ≠ nb i from ⟨hib, hin, hrn⟩)
   have HAT := Lib.hid hat
   have HML := Lib.hid hml
   clear hK hcm2 hib hin hrn hat hml
   go_wp2_with fail
   refine (w_markText K (by omega) _).mono ?_
   rintro e w1 ⟨rfl, hsz1, hb1⟩
   have a1 : Alt (fun p => p.block = rb i ∨ p.block = nb i ∨ p = ⟨b, o + i * 5, none⟩ ∨ p = ⟨b, o + i * 5 + 2, none⟩ ∨ p = ⟨b, o + i * 5 + 3, none⟩) _ w1 := Alt.below hb1
   have hbr := Nat.lt_of_lt_of_le hbw HA.out.size
   have c1 : w1.cell? ⟨b, o + i * 5, none⟩ = some (.string (nth l i).name) := by
    rw [hb1.cell hbr, (HS.out.c0 i HML.out).1, HAT.out]
   have f1 : ∀ x y, w1.frozen? ⟨b, x, y⟩ = false := fun x y => by rw [fro_of_block (hb1.block b hbr)]; exact HS.out.fr x y
   have hf1 := f1 (o + i * 5) none
   have a2 : Alt (fun p => p = ⟨b, o + i * 5, none⟩) w1 (w1.setCell ⟨b, o + i * 5, none⟩ (.string (mkT K))) := Alt.set rfl c1 (.inr (.inl ⟨_, _, rfl, rfl, hsz1⟩))
   have a12 := a1.trans (a2.mono (A' := fun p => p.block = rb i ∨ p.block = nb i ∨ p = ⟨b, o + i * 5, none⟩ ∨ p = ⟨b, o + i * 5 + 2, none⟩ ∨ p = ⟨b, o + i * 5 + 3, none⟩) fun p _ hp => .inr (.inr (.inl hp)))
   have r1 : R (w1.setCell ⟨b, o + i * 5, none⟩ (.string (mkT K))) (NO (w1.setCell ⟨b, o + i * 5, none⟩ (.string (mkT K))) (rb i)) (encS (nth l i).recipe) (u1 i) := by
    have := HS.out.r1 i HML.out
    rw [HAT.out] at this
    exact no_of (bar_alt (bar_alt this (Alt.below (A := fun _ => False) hb1) fun p hp => hp.elim) a2 fun p hp => by rw [hp]; exact fun e => HNE.out.1 e.symm)
   have c2 : (w1.setCell ⟨b, o + i * 5, none⟩ (.string (mkT K))).cell? ⟨b, o + i * 5 + 1, none⟩ = some (u1 i) := a2.keep _ _ (by rw [hb1.cell hbr]; exact HS.out.c1 i HML.out) fun e => by have := congrArg Addr.off e; simp at this
   obtain ⟨aa, ln, cp, hu1, -⟩ := (show R _ _ (.sl ((nth l i).recipe.map Enc.cells)) (u1 i) from r1)
   obtain ⟨K2, hK2⟩ : ∃ K2, K + 1 + (nth l i).recipe.length = K2 := ⟨_, rfl⟩
   have hm2 := m_StringS (nth l i).recipe (K + 1) _ _ (u1 i) r1 (fun p hp => .inr (.inl hp)) (by omega)
   rw [hK2] at hm2
   have q0 := cell_at (v := .string (mkT K)) c1
   have HM2 := Lib.hid hm2
   have HA12 := Lib.hid a12
   have HQ0 := Lib.hid q0
   have HK2 := Lib.hid (show K2 = K + 1 + (nth l i).recipe.length by omega)
   have hK2b : K2 + 2 + 4 * (nth l i).needs.length ≤ 1152921504606846970 := by omega
   have HU1 := Lib.hid hu1
   have HF1 := Lib.hid f1
   have HSZ := Lib.hid hsz1
   clear a1 a2 a12 r1 hm2 hK2 q0 hu1 f1 hsz1
   go_wp2_with fail
   refine HM2.out.mono ?_
   rintro e w3 ⟨rfl, ha3, hr3⟩
   have a2 : Alt (fun p => p = ⟨b, o + i * 5, none⟩) w1 (w1.setCell ⟨b, o + i * 5, none⟩ (.string (mkT K))) := Alt.set rfl c1 (.inr (.inl ⟨_, _, rfl, rfl, HSZ.out⟩))
   have ha3' := ha3.mono (A' := fun p => p.block = rb i) fun p _ hp => (no_blk hp).1
   have hb1' := Nat.lt_of_lt_of_le hbr hb1.size
   have hb2' : b < (w1.setCell ⟨b, o + i * 5, none⟩ (.string (mkT K))).heap.size := by rw [size_setCell]; exact hb1'
   have f3 : ∀ x y, w3.frozen? ⟨b, x, y⟩ = false := fun x y => by rw [ha3.fro _ hb2', fro_setCell]; exact HF1.out x y
   have kb : ∀ {j : Nat} {v : Value}, 0 < j → wr.cell? ⟨b, o + i * 5 + j, none⟩ = some v → w3.cell? ⟨b, o + i * 5 + j, none⟩ = some v := fun {j v} hj hc =>
    ha3'.keep _ _ (a2.keep _ _ (by rw [hb1.cell hbr]; exact hc) fun e => by have := congrArg Addr.off e; simp at this; omega) fun e => HNE.out.1 e.symm
   have c3 : w3.cell? ⟨b, o + i * 5 + 2, none⟩ = some (.int .i64 (nth l i).ver.maj) := kb (by omega) (by have := (HS.out.c2 i HML.out).1; rw [HAT.out] at this; exact this)
   have hf3 := f3 (o + i * 5 + 2) none
   have a4 : Alt (fun p => p = ⟨b, o + i * 5 + 2, none⟩) w3 (w3.setCell ⟨b, o + i * 5 + 2, none⟩ (.int .i64 (K2 : Int))) := Alt.set rfl c3 (.inr (.inr ⟨_, _, _, rfl, rfl, by rw [i64min]; omega, by rw [i64max]; omega⟩))
   have c4 : (w3.setCell ⟨b, o + i * 5 + 2, none⟩ (.int .i64 (K2 : Int))).cell? ⟨b, o + i * 5 + 3, none⟩ = some (.int .i64 (nth l i).ver.min) := a4.keep _ _ (kb (by omega) (by have := (HS.out.c3 i HML.out).1; rw [HAT.out] at this; exact this)) fun e => by have := congrArg Addr.off e; simp at this
   have hf4 : (w3.setCell ⟨b, o + i * 5 + 2, none⟩ (.int .i64 (K2 : Int))).frozen? ⟨b, o + i * 5 + 3, none⟩ = false := by rw [fro_setCell]; exact f3 _ _
   have a5 : Alt (fun p => p = ⟨b, o + i * 5 + 3, none⟩) (w3.setCell ⟨b, o + i * 5 + 2, none⟩ (.int .i64 (K2 : Int))) ((w3.setCell ⟨b, o + i * 5 + 2, none⟩ (.int .i64 (K2 : Int))).setCell ⟨b, o + i * 5 + 3, none⟩ (.int .i64 ((K2 : Int) + 1))) := Alt.set rfl c4 (.inr (.inr ⟨_, _, _, rfl, rfl, by rw [i64min]; omega, by rw [i64max]; omega⟩))
   have c5 : ((w3.setCell ⟨b, o + i * 5 + 2, none⟩ (.int .i64 (K2 : Int))).setCell ⟨b, o + i * 5 + 3, none⟩ (.int .i64 ((K2 : Int) + 1))).cell? ⟨b, o + i * 5 + 4, none⟩ = some (u4 i) :=
    a5.keep _ _ (a4.keep _ _ (kb (by omega) (HS.out.c4 i HML.out)) fun e => by have := congrArg Addr.off e; simp at this) fun e => by have := congrArg Addr.off e; simp at this
   have r4 : R ((w3.setCell ⟨b, o + i * 5 + 2, none⟩ (.int .i64 (K2 : Int))).setCell ⟨b, o + i * 5 + 3, none⟩ (.int .i64 ((K2 : Int) + 1))) (NO ((w3.setCell ⟨b, o + i * 5 + 2, none⟩ (.int .i64 (K2 : Int))).setCell ⟨b, o + i * 5 + 3, none⟩ (.int .i64 ((K2 : Int) + 1))) (nb i)) (encS (nth l i).needs) (u4 i) := by
    have := HS.out.r4 i HML.out
    rw [HAT.out] at this
    have nbb : ∀ {x : Nat} (p : Addr), p = ⟨b, x, none⟩ → p.block ≠ nb i := fun p hp => by rw [hp]; exact fun e => HNE.out.2.1 e.symm
    exact no_of (bar_alt (bar_alt (bar_alt (bar_alt (bar_alt this (Alt.below (A := fun _ => False) hb1) fun p hp => hp.elim) a2 nbb) ha3' fun p hp => by rw [hp]; exact HNE.out.2.2) a4 nbb) a5 nbb)
   obtain ⟨K5, hK5⟩ : ∃ K5, K2 + 2 + 4 * (nth l i).needs.length = K5 := ⟨_, rfl⟩
   have hm5 := m_NeedS (nth l i).needs (K2 + 2) _ _ (u4 i) r4 (fun p hp => .inr (.inl hp)) (by omega)
   rw [hK5] at hm5
   have HM5 := Lib.hid hm5
   have HA3 := Lib.hid ha3
   have HA3' := Lib.hid ha3'
   have HR3 := Lib.hid hr3
   have HA4 := Lib.hid a4
   have HA5 := Lib.hid a5
   have HQ2 := Lib.hid (cell_at (v := .int .i64 (K2 : Int)) c3)
   have HQ3 := Lib.hid (cell_at (v := .int .i64 ((K2 : Int) + 1)) c4)
   have HK5 := Lib.hid (show K5 = K2 + 2 + 4 * (nth l i).needs.length by omega)
   clear a2 ha3 ha3' hr3 f3 a4 a5 r4 hm5 hK5 kb hb1' hb2'
   go_wp2_with fail
   refine HM5.out.mono ?_
   rintro e w6 ⟨rfl, ha6, hr6⟩
   have ha6' := ha6.mono (A' := fun p => p.block = nb i) fun p _ hp => (no_blk hp).1
   have b36 := ((HA4.out.mono (A' := fun p => p.block = nb i ∨ p = ⟨b, o + i * 5 + 2, none⟩ ∨ p = ⟨b, o + i * 5 + 3, none⟩) fun p _ hp => .inr (.inl hp)).trans (HA5.out.mono fun p _ hp => .inr (.inr hp))).trans (ha6'.mono fun p _ hp => .inl hp)
   have b26 := (HA3'.out.mono (A' := fun p => p.block = rb i ∨ p.block = nb i ∨ p = ⟨b, o + i * 5 + 2, none⟩ ∨ p = ⟨b, o + i * 5 + 3, none⟩) fun p _ hp => .inl hp).trans (b36.mono fun p _ hp => .inr hp)
   have b46 := (HA5.out.mono (A' := fun p => p.block = nb i ∨ p = ⟨b, o + i * 5 + 3, none⟩) fun p _ hp => .inr hp).trans (ha6'.mono fun p _ hp => .inl hp)
   have tot := HA12.out.trans (b26.mono fun p _ hp => by
    rcases hp with hp | hp | hp | hp
    ·exact .inl hp
    ·exact .inr (.inl hp)
    ·exact .inr (.inr (.inr (.inl hp)))
    ·exact .inr (.inr (.inr (.inr hp))))
   have nrb : ∀ x : Nat, ¬ (⟨b, x, none⟩ : Addr).block = rb i := fun x e => HNE.out.1 e.symm
   have nnb : ∀ x : Nat, ¬ (⟨b, x, none⟩ : Addr).block = nb i := fun x e => HNE.out.2.1 e.symm
   have z0 := b26.keep _ _ HQ0.out (by
    rintro (e | e | e | e)
    ·exact nrb _ e
    ·exact nnb _ e
    ·have := congrArg Addr.off e; simp at this
    ·have := congrArg Addr.off e; simp at this)
   have z2 := b46.keep _ _ HQ2.out (by
    rintro (e | e)
    ·exact nnb _ e
    ·have := congrArg Addr.off e; simp at this)
   have z3 := ha6'.keep _ _ HQ3.out (nnb _)
   have hKe := HK.out
   have hK2e := HK2.out
   have hst := HS.out.step hlt (fun p v hp e1 e2 e3 e4 e5 => tot.keep p v hp (by
     rintro (e | e | e | e | e)
     ·exact e1 e
     ·exact e2 e
     ·exact e3 e
     ·exact e4 e
     ·exact e5 e)) tot.fro hbr
    (by rw [z0]; unfold markE; rw [hKe]) (by unfold markE; rw [← hKe]; exact HSZ.out)
    (by rw [z2, hK2e, hKe]; rfl) (by rw [z3, hK2e, hKe]; rfl)
    (by unfold markE; dsimp only; omega)
    (by
     have := no_alt HR3.out HA3.out.size (fun p hp => b26.fro p hp) b36 (fun p hp => by
      rcases hp with hp | hp | hp
      ·rw [hp]; exact HNE.out.2.2.symm
      ·rw [hp]; exact fun e => nrb _ e
      ·rw [hp]; exact fun e => nrb _ e)
     rw [mkStr_rows] at this
     unfold markE
     rw [← hKe]
     exact this)
    (by
     have := no_alt hr6 ha6.size (fun p hp => ha6.fro p hp) (Alt.refl (fun _ => False) w6) fun p hp => hp.elim
     rw [mkNeed_rows] at this
     unfold markE
     rw [← hKe, ← hK2e]
     exact this)
   have HST := Lib.hid hst
   have HT := Lib.hid (HA.out.trans (tot.mono (A' := fun p => p.block = b ∨ ∃ a, a < l.length ∧ (p.block = rb a ∨ p.block = nb a)) fun p _ hp => by
    rcases hp with hp | hp | hp | hp | hp
    ·exact .inr ⟨i, hlt, .inl hp⟩
    ·exact .inr ⟨i, hlt, .inr hp⟩
    ·exact .inl (by rw [hp])
    ·exact .inl (by rw [hp])
    ·exact .inl (by rw [hp])))
   have HKN := Lib.hid (show K5 = k + cntTo l (i + 1) by
    have := HK5.out
    simp only [cntTo, cntE]
    omega)
   clear ha6 ha6' hr6 b36 b26 b46 tot nrb nnb z0 z2 z3 hKe hK2e hst
   go_wp2
   exact ⟨⟨HT.out, i + 1, K5, by omega, HKN.out, by go_num, by go_num, HST.out⟩, by simp [intOf]; omega⟩
  ·go_wp2
   go_ret
   obtain rfl : i = l.length := by omega
   subst hK
   exact ⟨rfl, HA.out, HS.out⟩
end Go.Proofs.Ytjmakbnblpjkhaa
/- A row of entries under way: each row within lies in a new block of its own, or is empty; in the end the rows lie apart. -/
namespace Go.Proofs.Ytjmakbnblpjkhaa
open Go.RowKit Go
def RowIn (B : Nat) (w : World) (rows : List (List D)) (u : Value) : Option Nat → Prop
 | some r => B ≤ r ∧ r < w.heap.size ∧ R w (fun p => p.block ≠ r ∨ w.frozen? p = true) (.sl rows) u
 | none => R w (fun _ => True) (.sl rows) u
theorem RowIn.keep {B : Nat} {w w' : World} {rows : List (List D)} {u : Value} {r : Option Nat} (h : RowIn B w rows u r) (hs : w.heap.size ≤ w'.heap.size) (hk : ∀ p v, w.cell? p = some v → r = some p.block → w'.cell? p = some v) (hf : ∀ p : Addr, p.block < w.heap.size → r = some p.block → w'.frozen? p = w.frozen? p) : RowIn B w' rows u r := by
 cases r with
 | none => exact R.keep (fun p v hp hn => absurd trivial hn) _ _ h
 | some r =>
  obtain ⟨h1, h2, h3⟩ := h
  refine ⟨h1, by omega, R.keep (fun p v hp hn => ?_) _ _ h3⟩
  have hpb : p.block = r := Classical.byContradiction fun e => hn (.inl e)
  exact ⟨hk p v hp (by rw [hpb]), fun hm => hn (hm.imp id fun e => by rw [← hf p (block_lt_of_cell hp) (by rw [hpb])]; exact e)⟩
theorem RowIn.low {B B' : Nat} {w : World} {rows : List (List D)} {u : Value} {r : Option Nat} (h : RowIn B w rows u r) (hB : B' ≤ B) : RowIn B' w rows u r := by
 cases r with
 | none => exact h
 | some r => exact ⟨Nat.le_trans hB h.1, h.2⟩
theorem rowIn_of {B n : Nat} {w : World} {M : Addr → Prop} {rows : List (List D)} {u : Value} (hr : R w M (.sl rows) u) (hn : ∀ r ∈ rows, r.length = n) (hlf : ∀ r ∈ rows, ∀ d ∈ r, leafD d = true) (hl : LiveAt B w u n) :
  ∃ r, RowIn B w rows u r ∧ ∀ x, r = some x → ∃ o s len cap, u = .slice (some ⟨x, o, s⟩) len cap ∧ 0 < cap := by
 have hr0 := hr
 obtain ⟨a, len, cap, rfl, h1, h2, h3, h4, h5⟩ := hr
 by_cases hc : 0 < cap
 ·rcases a with _ | ⟨b, o, s⟩
  ·have := h4 rfl; omega
  ·refine ⟨some b, ?_, fun x hx => by cases hx; exact ⟨o, s, len, cap, rfl, hc⟩⟩
   obtain ⟨_, q2, cells, T, q3, _⟩ := hl b o s len cap rfl hc
   refine ⟨q2, (Array.getElem?_eq_some_iff.1 q3).1, flat_of hn h1 h2 h3 (h5 b o s rfl).1 fun i j r d hi hj => ?_⟩
   obtain ⟨v, c1, c2, c3⟩ := flat_cells hn hr0 hi hj
   refine ⟨v, c1, fun hm => ?_, leaf_move (hlf r (List.mem_of_getElem? hi) d (List.mem_of_getElem? hj)) c3⟩
   rcases hm with hm | hm
   ·exact hm rfl
   ·rw [(live_free hl hc).2] at hm; cases hm
 ·refine ⟨none, ?_, fun x hx => by cases hx⟩
  have : rows = [] := List.eq_nil_of_length_eq_zero (by omega)
  subst this
  exact ⟨a, len, cap, rfl, h1, h2, h3, h4, fun b o s e => ⟨(h5 b o s e).1, trivial⟩⟩
structure PreE (B : Nat) (w : World) (b n : Nat) (l : List Entry) (u1 u4 : Nat → Value) (ro no : Nat → Option Nat) : Prop where
 le : n ≤ l.length
 bw : B ≤ b ∧ b < w.heap.size
 c0 : ∀ a, a < n → w.cell? ⟨b, a * 5, none⟩ = some (.string (nth l a).name) ∧ (nth l a).name.size ≤ maxLen
 c1 : ∀ a, a < n → w.cell? ⟨b, a * 5 + 1, none⟩ = some (u1 a)
 c2 : ∀ a, a < n → w.cell? ⟨b, a * 5 + 2, none⟩ = some (.int .i64 (nth l a).ver.maj) ∧ IntKind.i64.min ≤ (nth l a).ver.maj ∧ (nth l a).ver.maj ≤ IntKind.i64.max
 c3 : ∀ a, a < n → w.cell? ⟨b, a * 5 + 3, none⟩ = some (.int .i64 (nth l a).ver.min) ∧ IntKind.i64.min ≤ (nth l a).ver.min ∧ (nth l a).ver.min ≤ IntKind.i64.max
 c4 : ∀ a, a < n → w.cell? ⟨b, a * 5 + 4, none⟩ = some (u4 a)
 r1 : ∀ a, a < n → RowIn B w ((nth l a).recipe.map Enc.cells) (u1 a) (ro a)
 r4 : ∀ a, a < n → RowIn B w ((nth l a).needs.map Enc.cells) (u4 a) (no a)
 fr : ∀ x y, w.frozen? ⟨b, x, y⟩ = false
 rb : ∀ a x, a < n → ro a = some x → x ≠ b
 nb : ∀ a x, a < n → no a = some x → x ≠ b
 rn : ∀ a c x, a < n → c < n → ro a = some x → no c ≠ some x
 rr : ∀ a c x, a < n → c < n → a ≠ c → ro a = some x → ro c ≠ some x
 nn : ∀ a c x, a < n → c < n → a ≠ c → no a = some x → no c ≠ some x
theorem PreE.sep {B : Nat} {w : World} {b : Nat} {l : List Entry} {u1 u4 : Nat → Value} {ro no : Nat → Option Nat} (h : PreE B w b l.length l u1 u4 ro no) :
  SepE w b 0 (fun a => (ro a).getD (w.heap.size + 2 * a)) (fun a => (no a).getD (w.heap.size + 2 * a + 1)) l u1 u4 := by
 have lo : ∀ a x, a < l.length → ro a = some x → x < w.heap.size := fun a x ha e => by have := h.r1 a ha; rw [e] at this; exact this.2.1
 have ln : ∀ a x, a < l.length → no a = some x → x < w.heap.size := fun a x ha e => by have := h.r4 a ha; rw [e] at this; exact this.2.1
 have hb := h.bw.2
 refine ⟨fun a ha => by rw [Nat.zero_add]; exact h.c0 a ha, fun a ha => by rw [Nat.zero_add]; exact h.c1 a ha, fun a ha => by rw [Nat.zero_add]; exact h.c2 a ha, fun a ha => by rw [Nat.zero_add]; exact h.c3 a ha, fun a ha => by rw [Nat.zero_add]; exact h.c4 a ha,
  fun a ha => ?_, fun a ha => ?_, h.fr, fun a ha => ?_, fun a ha => ?_, fun a c ha hc => ?_, fun a c ha hc hne => ?_, fun a c ha hc hne => ?_⟩
 ·have := h.r1 a ha
  cases e : ro a with
  | none => rw [e] at this; exact R.less this fun _ _ => trivial
  | some x => rw [e] at this; exact this.2.2
 ·have := h.r4 a ha
  cases e : no a with
  | none => rw [e] at this; exact R.less this fun _ _ => trivial
  | some x => rw [e] at this; exact this.2.2
 ·cases e : ro a with
  | none => simp only [Option.getD_none]; omega
  | some x => simp only [Option.getD_some]; exact h.rb a x ha e
 ·cases e : no a with
  | none => simp only [Option.getD_none]; omega
  | some x => simp only [Option.getD_some]; exact h.nb a x ha e
 ·cases e : ro a with
  | none => cases e2 : no c with
   | none => simp only [Option.getD_none]; omega
   | some y => have := ln c y hc e2; simp only [Option.getD_none, Option.getD_some]; omega
  | some x => cases e2 : no c with
   | none => have := lo a x ha e; simp only [Option.getD_none, Option.getD_some]; omega
   | some y => simp only [Option.getD_some]; exact fun e3 => h.rn a c x ha hc e (by rw [e2, e3])
 ·cases e : ro a with
  | none => cases e2 : ro c with
   | none => simp only [Option.getD_none]; omega
   | some y => have := lo c y hc e2; simp only [Option.getD_none, Option.getD_some]; omega
  | some x => cases e2 : ro c with
   | none => have := lo a x ha e; simp only [Option.getD_none, Option.getD_some]; omega
   | some y => simp only [Option.getD_some]; exact fun e3 => h.rr a c x ha hc hne e (by rw [e2, e3])
 ·cases e : no a with
  | none => cases e2 : no c with
   | none => simp only [Option.getD_none]; omega
   | some y => have := ln c y hc e2; simp only [Option.getD_none, Option.getD_some]; omega
  | some x => cases e2 : no c with
   | none => have := ln a x ha e; simp only [Option.getD_none, Option.getD_some]; omega
   | some y => simp only [Option.getD_some]; exact fun e3 => h.nn a c x ha hc hne e (by rw [e2, e3])
end Go.Proofs.Ytjmakbnblpjkhaa
/- A row of entries that grows by appends: its cells as a list; where the rows within lie. -/
namespace Go.Proofs.Ytjmakbnblpjkhaa
open Go.RowKit Go
structure Rows (B : Nat) (w : World) (ob : Option Nat) (n : Nat) (l : List Entry) (xs : List Value) (u1 u4 : Nat → Value) (ro no : Nat → Option Nat) : Prop where
 le : n ≤ l.length
 xl : xs.length = n * 5
 x0 : ∀ a, a < n → xs[a * 5]? = some (.string (nth l a).name) ∧ (nth l a).name.size ≤ maxLen
 x1 : ∀ a, a < n → xs[a * 5 + 1]? = some (u1 a)
 x2 : ∀ a, a < n → xs[a * 5 + 2]? = some (.int .i64 (nth l a).ver.maj) ∧ IntKind.i64.min ≤ (nth l a).ver.maj ∧ (nth l a).ver.maj ≤ IntKind.i64.max
 x3 : ∀ a, a < n → xs[a * 5 + 3]? = some (.int .i64 (nth l a).ver.min) ∧ IntKind.i64.min ≤ (nth l a).ver.min ∧ (nth l a).ver.min ≤ IntKind.i64.max
 x4 : ∀ a, a < n → xs[a * 5 + 4]? = some (u4 a)
 r1 : ∀ a, a < n → RowIn B w ((nth l a).recipe.map Enc.cells) (u1 a) (ro a)
 r4 : ∀ a, a < n → RowIn B w ((nth l a).needs.map Enc.cells) (u4 a) (no a)
 rb : ∀ a x, a < n → ro a = some x → ob ≠ some x
 nb : ∀ a x, a < n → no a = some x → ob ≠ some x
 rn : ∀ a c x, a < n → c < n → ro a = some x → no c ≠ some x
 rr : ∀ a c x, a < n → c < n → a ≠ c → ro a = some x → ro c ≠ some x
 nn : ∀ a c x, a < n → c < n → a ≠ c → no a = some x → no c ≠ some x
theorem Rows.nil {B : Nat} {w : World} {ob : Option Nat} {l : List Entry} : Rows B w ob 0 l [] (fun _ => .slice Option.none 0 0) (fun _ => .slice Option.none 0 0) (fun _ => Option.none) (fun _ => Option.none) :=
 ⟨Nat.zero_le _, rfl, fun a h => absurd h (by omega), fun a h => absurd h (by omega), fun a h => absurd h (by omega), fun a h => absurd h (by omega), fun a h => absurd h (by omega), fun a h => absurd h (by omega), fun a h => absurd h (by omega), fun a x h => absurd h (by omega), fun a x h => absurd h (by omega), fun a c x h => absurd h (by omega), fun a c x h => absurd h (by omega), fun a c x h => absurd h (by omega)⟩
theorem Rows.move {B : Nat} {w w' : World} {ob ob' : Option Nat} {n : Nat} {l : List Entry} {xs : List Value} {u1 u4 : Nat → Value} {ro no : Nat → Option Nat} (h : Rows B w ob n l xs u1 u4 ro no) (hs : w.heap.size ≤ w'.heap.size)
  (hk : ∀ k, k < w.heap.size → some k ≠ ob → w'.heap[k]? = w.heap[k]?) (hnew : ob' = ob ∨ ∀ x, ob' = some x → w.heap.size ≤ x) : Rows B w' ob' n l xs u1 u4 ro no :=
 { h with
  r1 := fun a ha => (h.r1 a ha).keep hs (fun p v hp e => by rw [World.cell?_of_block (hk p.block (block_lt_of_cell hp) fun e2 => h.rb a _ ha e e2.symm)]; exact hp) fun p hp e => fro_of_block (hk p.block hp fun e2 => h.rb a _ ha e e2.symm)
  r4 := fun a ha => (h.r4 a ha).keep hs (fun p v hp e => by rw [World.cell?_of_block (hk p.block (block_lt_of_cell hp) fun e2 => h.nb a _ ha e e2.symm)]; exact hp) fun p hp e => fro_of_block (hk p.block hp fun e2 => h.nb a _ ha e e2.symm)
  rb := fun a x ha e => by
   rcases hnew with rfl | hnew
   ·exact h.rb a x ha e
   ·intro e2
    have h1 := hnew x e2
    have := h.r1 a ha
    rw [e] at this
    have := this.2.1
    omega
  nb := fun a x ha e => by
   rcases hnew with rfl | hnew
   ·exact h.nb a x ha e
   ·intro e2
    have h1 := hnew x e2
    have := h.r4 a ha
    rw [e] at this
    have := this.2.1
    omega }
theorem Rows.snoc {B : Nat} {w : World} {ob : Option Nat} {n : Nat} {l : List Entry} {xs : List Value} {u1 u4 : Nat → Value} {ro no : Nat → Option Nat} (h : Rows B w ob n l xs u1 u4 ro no) (hn : n < l.length) {y1 y4 : Value} {r1 r4 : Option Nat}
  (q0 : (nth l n).name.size ≤ maxLen) (q2 : IntKind.i64.min ≤ (nth l n).ver.maj ∧ (nth l n).ver.maj ≤ IntKind.i64.max) (q3 : IntKind.i64.min ≤ (nth l n).ver.min ∧ (nth l n).ver.min ≤ IntKind.i64.max)
  (z1 : RowIn B w ((nth l n).recipe.map Enc.cells) y1 r1) (z4 : RowIn B w ((nth l n).needs.map Enc.cells) y4 r4) (hrb : ∀ x, r1 = some x → ob ≠ some x) (hnb : ∀ x, r4 = some x → ob ≠ some x) (hap : ∀ x, r1 = some x → r4 ≠ some x)
  (o1 : ∀ a x, a < n → r1 = some x → ro a ≠ some x ∧ no a ≠ some x) (o4 : ∀ a x, a < n → r4 = some x → ro a ≠ some x ∧ no a ≠ some x) :
  Rows B w ob (n + 1) l (xs ++ [.string (nth l n).name, y1, .int .i64 (nth l n).ver.maj, .int .i64 (nth l n).ver.min, y4]) (fun a => if a = n then y1 else u1 a) (fun a => if a = n then y4 else u4 a) (fun a => if a = n then r1 else ro a) (fun a => if a = n then r4 else no a) := by
 have hl := h.xl
 have old : ∀ {a j : Nat}, a < n → j < 5 → (xs ++ [.string (nth l n).name, y1, .int .i64 (nth l n).ver.maj, .int .i64 (nth l n).ver.min, y4])[a * 5 + j]? = xs[a * 5 + j]? := fun {a j} ha hj => List.getElem?_append_left (by rw [hl]; omega)
 have new : ∀ {j : Nat}, (xs ++ [.string (nth l n).name, y1, .int .i64 (nth l n).ver.maj, .int .i64 (nth l n).ver.min, y4])[n * 5 + j]? = [Value.string (nth l n).name, y1, .int .i64 (nth l n).ver.maj, .int .i64 (nth l n).ver.min, y4][j]? := fun {j} => by
  rw [List.getElem?_append_right (by rw [hl]; omega), hl]
  congr 1
  omega
 have lt : ∀ {a : Nat}, a < n + 1 → a ≠ n → a < n := fun h1 h2 => by omega
 refine ⟨hn, by simp [hl, Nat.add_mul], fun a ha => ?_, fun a ha => ?_, fun a ha => ?_, fun a ha => ?_, fun a ha => ?_, fun a ha => ?_, fun a ha => ?_, fun a x ha e => ?_, fun a x ha e => ?_, fun a c x ha hc e => ?_, fun a c x ha hc hne e => ?_, fun a c x ha hc hne e => ?_⟩
 ·by_cases e : a = n
  ·subst e; exact ⟨new (j := 0), q0⟩
  ·have := h.x0 a (lt ha e)
   exact ⟨(old (j := 0) (lt ha e) (by omega)).trans this.1, this.2⟩
 ·by_cases e : a = n
  ·subst e; simp only [if_true]; exact new (j := 1)
  ·simp only [e, if_false]; exact (old (j := 1) (lt ha e) (by omega)).trans (h.x1 a (lt ha e))
 ·by_cases e : a = n
  ·subst e; exact ⟨new (j := 2), q2⟩
  ·have := h.x2 a (lt ha e)
   exact ⟨(old (j := 2) (lt ha e) (by omega)).trans this.1, this.2⟩
 ·by_cases e : a = n
  ·subst e; exact ⟨new (j := 3), q3⟩
  ·have := h.x3 a (lt ha e)
   exact ⟨(old (j := 3) (lt ha e) (by omega)).trans this.1, this.2⟩
 ·by_cases e : a = n
  ·subst e; simp only [if_true]; exact new (j := 4)
  ·simp only [e, if_false]; exact (old (j := 4) (lt ha e) (by omega)).trans (h.x4 a (lt ha e))
 ·by_cases e : a = n
  ·subst e; simpa using z1
  ·simpa [e] using h.r1 a (lt ha e)
 ·by_cases e : a = n
  ·subst e; simpa using z4
  ·simpa [e] using h.r4 a (lt ha e)
 ·by_cases e2 : a = n
  ·subst e2; simp at e; exact hrb x e
  ·simp [e2] at e; exact h.rb a x (lt ha e2) e
 ·by_cases e2 : a = n
  ·subst e2; simp at e; exact hnb x e
  ·simp [e2] at e; exact h.nb a x (lt ha e2) e
 ·by_cases e2 : a = n
  ·subst e2
   simp at e
   by_cases e3 : c = a
   ·subst e3; simpa using hap x e
   ·simpa [e3] using (o1 c x (lt hc e3) e).2
  ·simp [e2] at e
   by_cases e3 : c = n
   ·subst e3
    simp only [if_true]
    exact fun e4 => (o4 a x (lt ha e2) e4).1 e
   ·simpa [e3] using h.rn a c x (lt ha e2) (lt hc e3) e
 ·by_cases e2 : a = n
  ·subst e2
   simp at e
   have e3 : c ≠ a := fun h => hne h.symm
   simpa [e3] using (o1 c x (lt hc e3) e).1
  ·simp [e2] at e
   by_cases e3 : c = n
   ·subst e3
    simp only [if_true]
    exact fun e4 => (o1 a x (lt ha e2) e4).1 e
   ·simpa [e3] using h.rr a c x (lt ha e2) (lt hc e3) hne e
 ·by_cases e2 : a = n
  ·subst e2
   simp at e
   have e3 : c ≠ a := fun h => hne h.symm
   simpa [e3] using (o4 c x (lt hc e3) e).2
  ·simp [e2] at e
   by_cases e3 : c = n
   ·subst e3
    simp only [if_true]
    exact fun e4 => (o4 a x (lt ha e2) e4).2 e
   ·simpa [e3] using h.nn a c x (lt ha e2) (lt hc e3) hne e
theorem nth_app_l {α : Type} [Inhabited α] {l1 l2 : List α} {a : Nat} (h : a < l1.length) : nth (l1 ++ l2) a = nth l1 a := by
 unfold nth
 simp only [List.getD_eq_getElem?_getD, List.getElem?_append_left h]
theorem nth_app_r {α : Type} [Inhabited α] {l1 l2 : List α} {a : Nat} (h : l1.length ≤ a) : nth (l1 ++ l2) a = nth l2 (a - l1.length) := by
 unfold nth
 simp only [List.getD_eq_getElem?_getD, List.getElem?_append_right h]
theorem Rows.join {B B2 : Nat} {w : World} {ob ob2 : Option Nat} {l1 l2 : List Entry} {xs1 xs2 : List Value} {u1 u4 v1 v4 : Nat → Value} {ro no ro2 no2 : Nat → Option Nat} (h1 : Rows B w ob l1.length l1 xs1 u1 u4 ro no) (h2 : Rows B2 w ob2 l2.length l2 xs2 v1 v4 ro2 no2) (hB : B ≤ B2)
  (hr : ∀ a x, a < l1.length → ro a = some x → x < B2) (hn : ∀ a x, a < l1.length → no a = some x → x < B2) (hob : ∀ x, ob = some x → x < B2) :
  Rows B w ob (l1 ++ l2).length (l1 ++ l2) (xs1 ++ xs2) (fun a => if a < l1.length then u1 a else v1 (a - l1.length)) (fun a => if a < l1.length then u4 a else v4 (a - l1.length)) (fun a => if a < l1.length then ro a else ro2 (a - l1.length)) (fun a => if a < l1.length then no a else no2 (a - l1.length)) := by
 have e1 := h1.xl
 have low1 : ∀ a x, a < l2.length → ro2 a = some x → B2 ≤ x := fun a x ha e => by have := h2.r1 a ha; rw [e] at this; exact this.1
 have low4 : ∀ a x, a < l2.length → no2 a = some x → B2 ≤ x := fun a x ha e => by have := h2.r4 a ha; rw [e] at this; exact this.1
 have xl : ∀ {a j : Nat}, a < l1.length → j < 5 → (xs1 ++ xs2)[a * 5 + j]? = xs1[a * 5 + j]? := fun {a j} ha hj => List.getElem?_append_left (by rw [e1]; omega)
 have xr : ∀ {a j : Nat}, l1.length ≤ a → (xs1 ++ xs2)[a * 5 + j]? = xs2[(a - l1.length) * 5 + j]? := fun {a j} ha => by
  rw [List.getElem?_append_right (by rw [e1]; omega), e1]
  congr 1
  omega
 have hl : (l1 ++ l2).length = l1.length + l2.length := List.length_append
 refine ⟨Nat.le_refl _, by rw [List.length_append, h1.xl, h2.xl, hl, Nat.add_mul], fun a ha => ?_, fun a ha => ?_, fun a ha => ?_, fun a ha => ?_, fun a ha => ?_, fun a ha => ?_, fun a ha => ?_, fun a x ha e => ?_, fun a x ha e => ?_, fun a c x ha hc e => ?_, fun a c x ha hc hne e => ?_, fun a c x ha hc hne e => ?_⟩
 all_goals (rw [hl] at ha)
 ·by_cases q : a < l1.length
  ·rw [nth_app_l q]; exact ⟨(xl (j := 0) q (by omega)).trans (h1.x0 a q).1, (h1.x0 a q).2⟩
  ·rw [nth_app_r (by omega)]; have := h2.x0 (a - l1.length) (by omega); exact ⟨(xr (j := 0) (by omega)).trans this.1, this.2⟩
 ·by_cases q : a < l1.length
  ·simp only [q, if_true]; exact (xl q (by omega)).trans (h1.x1 a q)
  ·simp only [q, if_false]; exact (xr (by omega)).trans (h2.x1 (a - l1.length) (by omega))
 ·by_cases q : a < l1.length
  ·rw [nth_app_l q]; exact ⟨(xl q (by omega)).trans (h1.x2 a q).1, (h1.x2 a q).2⟩
  ·rw [nth_app_r (by omega)]; have := h2.x2 (a - l1.length) (by omega); exact ⟨(xr (by omega)).trans this.1, this.2⟩
 ·by_cases q : a < l1.length
  ·rw [nth_app_l q]; exact ⟨(xl q (by omega)).trans (h1.x3 a q).1, (h1.x3 a q).2⟩
  ·rw [nth_app_r (by omega)]; have := h2.x3 (a - l1.length) (by omega); exact ⟨(xr (by omega)).trans this.1, this.2⟩
 ·by_cases q : a < l1.length
  ·simp only [q, if_true]; exact (xl q (by omega)).trans (h1.x4 a q)
  ·simp only [q, if_false]; exact (xr (by omega)).trans (h2.x4 (a - l1.length) (by omega))
 ·by_cases q : a < l1.length
  ·rw [nth_app_l q]; simp only [q, if_true]; exact h1.r1 a q
  ·rw [nth_app_r (by omega)]; simp only [q, if_false]; exact (h2.r1 (a - l1.length) (by omega)).low hB
 ·by_cases q : a < l1.length
  ·rw [nth_app_l q]; simp only [q, if_true]; exact h1.r4 a q
  ·rw [nth_app_r (by omega)]; simp only [q, if_false]; exact (h2.r4 (a - l1.length) (by omega)).low hB
 ·by_cases q : a < l1.length
  ·simp only [q, if_true] at e; exact h1.rb a x q e
  ·simp only [q, if_false] at e; exact fun e2 => by have := hob x e2; have := low1 _ x (by omega) e; omega
 ·by_cases q : a < l1.length
  ·simp only [q, if_true] at e; exact h1.nb a x q e
  ·simp only [q, if_false] at e; exact fun e2 => by have := hob x e2; have := low4 _ x (by omega) e; omega
 ·rw [hl] at hc
  by_cases q : a < l1.length <;> by_cases q2 : c < l1.length <;> simp only [q, q2, if_true, if_false] at e ⊢
  ·exact h1.rn a c x q q2 e
  ·exact fun e2 => by have := hr a x q e; have := low4 _ x (by omega) e2; omega
  ·exact fun e2 => by have := hn c x q2 e2; have := low1 _ x (by omega) e; omega
  ·exact h2.rn _ _ x (by omega) (by omega) e
 ·rw [hl] at hc
  by_cases q : a < l1.length <;> by_cases q2 : c < l1.length <;> simp only [q, q2, if_true, if_false] at e ⊢
  ·exact h1.rr a c x q q2 hne e
  ·exact fun e2 => by have := hr a x q e; have := low1 _ x (by omega) e2; omega
  ·exact fun e2 => by have := hr c x q2 e2; have := low1 _ x (by omega) e; omega
  ·exact h2.rr _ _ x (by omega) (by omega) (by omega) e
 ·rw [hl] at hc
  by_cases q : a < l1.length <;> by_cases q2 : c < l1.length <;> simp only [q, q2, if_true, if_false] at e ⊢
  ·exact h1.nn a c x q q2 hne e
  ·exact fun e2 => by have := hn a x q e; have := low4 _ x (by omega) e2; omega
  ·exact fun e2 => by have := hn c x q2 e2; have := low4 _ x (by omega) e; omega
  ·exact h2.nn _ _ x (by omega) (by omega) (by omega) e
theorem Rows.pre {B : Nat} {w : World} {T : TypeId} {g cap : Nat} {cur : Array Value} {l : List Entry} {xs : List Value} {u1 u4 : Nat → Value} {ro no : Nat → Option Nat} (h : Rows B w (some g) l.length l xs u1 u4 ro no)
  (hg : B ≤ g) (hc : w.heap[g]? = some (.cells cur T (0, 0))) (ht : cur.toList.take (l.length * 5) = xs) : PreE B w g l.length l u1 u4 ro no := by
 have cell : ∀ {j : Nat} {v : Value}, xs[j]? = some v → w.cell? ⟨g, j, Option.none⟩ = some v := fun {j v} hv => by
  rw [← ht, List.getElem?_take] at hv
  split at hv
  ·unfold World.cell?
   rw [hc]
   simpa using hv
  ·cases hv
 refine ⟨Nat.le_refl _, ⟨hg, (Array.getElem?_eq_some_iff.1 hc).1⟩, fun a ha => ⟨cell (h.x0 a ha).1, (h.x0 a ha).2⟩, fun a ha => cell (h.x1 a ha), fun a ha => ⟨cell (h.x2 a ha).1, (h.x2 a ha).2⟩, fun a ha => ⟨cell (h.x3 a ha).1, (h.x3 a ha).2⟩, fun a ha => cell (h.x4 a ha), h.r1, h.r4, fun x y => ?_, fun a x ha e e2 => h.rb a x ha e (by rw [e2]), fun a x ha e e2 => h.nb a x ha e (by rw [e2]), h.rn, h.rr, h.nn⟩
 unfold World.frozen?
 rw [hc]
 simp
end Go.Proofs.Ytjmakbnblpjkhaa
/- Contract by hand: copies of entries: each row in the answer lies in a new block of its own. -/
namespace Go.Proofs.Ytjmakbnblpjkhaa
open Go.RowKit Go
theorem w_copyEntry {f : FuncId} (x : Entry) (hF : FunR Try.prog f Option.none [enc x] (enc x) [] [(1, 1), (4, 4)]) {w : World} {v : Value} (hr : R w (fun _ => False) (enc x) v) :
  Calls Try.prog f #[v] w fun e w' => ∃ y1 y4 r1 r4, e = .returned (.agg #[.string x.name, y1, .int .i64 x.ver.maj, .int .i64 x.ver.min, y4]) ∧ x.name.size ≤ maxLen ∧ (IntKind.i64.min ≤ x.ver.maj ∧ x.ver.maj ≤ IntKind.i64.max) ∧ (IntKind.i64.min ≤ x.ver.min ∧ x.ver.min ≤ IntKind.i64.max) ∧
   RowIn w.heap.size w' (x.recipe.map Enc.cells) y1 r1 ∧ RowIn w.heap.size w' (x.needs.map Enc.cells) y4 r4 ∧ (∀ z, r1 = some z → r4 ≠ some z) ∧ y1.oneCell' = true ∧ y4.oneCell' = true ∧ Below w.heap.size w w' := by
 refine (hF.2 w _ 0 [v] (rdy0 w) ⟨_, [], rfl, hr, rfl⟩ (fun cs h => by cases h)).mono ?_
 rintro e w' ⟨v', rfl, ⟨cs, rfl, h2⟩, h3, h4, _⟩
 obtain ⟨y0, _, hc, ⟨r01, r02⟩, y1, _, rfl, r1, y2, _, rfl, ⟨r21, r22⟩, y3, _, rfl, ⟨r31, r32⟩, y4, _, rfl, r4, hx⟩ := h2
 have hx : _ = [] := hx
 subst hx
 have hcs : cs = #[y0, y1, y2, y3, y4] := by rw [← Array.toList_inj, hc]
 subst hcs
 subst r01 r21 r31
 obtain ⟨a1, l1, c1, hy1, z1⟩ := (show R w' _ (.sl (x.recipe.map Enc.cells)) y1 from r1)
 obtain ⟨a4, l4, c4, hy4, z4⟩ := (show R w' _ (.sl (x.needs.map Enc.cells)) y4 from r4)
 have e1 := h4.1 (1, 1) (by simp)
 have e4 := h4.1 (4, 4) (by simp)
 have ap := h4.2 0 1 (1, 1) (4, 4) rfl rfl (by decide)
 have f1 : rtV (.agg #[.string x.name, y1, .int .i64 x.ver.maj, .int .i64 x.ver.min, y4]) (1, 1) = y1 := by subst hy1 hy4; rfl
 have f4 : rtV (.agg #[.string x.name, y1, .int .i64 x.ver.maj, .int .i64 x.ver.min, y4]) (4, 4) = y4 := by subst hy1 hy4; rfl
 rw [f1] at e1 ap
 rw [f4] at e4 ap
 obtain ⟨o1, k1, b1⟩ := rowIn_of r1 (str_flat _).1 (str_flat _).2 e1
 obtain ⟨o4, k4, b4⟩ := rowIn_of r4 (need_flat _).1 (need_flat _).2 e4
 refine ⟨y1, y4, o1, o4, rfl, r02, r22, r32, k1, k4, fun z hz1 hz4 => ?_, by subst hy1; rfl, by subst hy4; rfl, h3.to_below⟩
 obtain ⟨p1, s1, n1, m1, q1, q1'⟩ := b1 z hz1
 obtain ⟨p4, s4, n4, m4, q4, q4'⟩ := b4 z hz4
 exact ap _ _ _ _ _ _ _ _ _ _ q1 q1' q4 q4' rfl
theorem owns_base {w : World} {B n sz : Nat} {e : TypeId} {v : Value} {xs : List Value} (h : w.ownsRow B e sz v n xs) {g : Nat} (hg : v.ownBlock = some g) : B ≤ g ∧ g < w.heap.size := by
 obtain ⟨_, h | ⟨g', cap, cur, h1, h2, h3, _⟩⟩ := h
 ·rw [h.1] at hg; cases hg
 ·rw [h1] at hg
  have hg : some g' = some g := hg
  cases hg
  exact ⟨h2, (Array.getElem?_eq_some_iff.1 h3).1⟩
theorem owns_below {w w' : World} {B n sz : Nat} {e : TypeId} {v : Value} {xs : List Value} (h : w.ownsRow B e sz v n xs) (hb : Below w.heap.size w w') : w'.ownsRow B e sz v n xs := by
 obtain ⟨h0, h | ⟨g', cap, cur, h1, h2, h3, h4⟩⟩ := h
 ·exact ⟨h0, .inl h⟩
 ·exact ⟨h0, .inr ⟨g', cap, cur, h1, h2, by rw [hb.block g' (Array.getElem?_eq_some_iff.1 h3).1]; exact h3, h4⟩⟩
theorem cells_new {w : World} {xs : List Value} {T : TypeId} : ∀ (j : Nat) (u : Value), xs[j]? = some u → (w.alloc (.cells xs.toArray T)).cell? ((⟨w.heap.size, 0, Option.none⟩ : Addr).add j) = some u := fun j u h => by
 rw [Addr.add_lit]
 unfold World.cell?
 have : (w.alloc (.cells xs.toArray T)).heap[w.heap.size]? = some (.cells xs.toArray T (0, 0)) := heap_alloc_new w _
 simp only [this]
 simpa using h
theorem RowIn.le {B : Nat} {w : World} {rows : List (List D)} {u : Value} {r : Option Nat} (h : RowIn B w rows u r) {x : Nat} (e : r = some x) : B ≤ x ∧ x < w.heap.size := by
 subst e; exact ⟨h.1, h.2.1⟩
theorem rows_append {w wr W w1 w3 : World} {l : List Entry} {k : Nat} {out v' : Value} {xs : List Value} {u1 u4 : Nat → Value} {ro no : Nat → Option Nat} {T T' : TypeId} {y1 y4 : Value} {r1 r4 : Option Nat} {sl : Array Value}
  (hB : Below w.heap.size w wr) (hO : wr.ownsRow w.heap.size T 5 out k xs) (hR : Rows w.heap.size wr out.ownBlock k l xs u1 u4 ro no) (hk : k < l.length) (hW : wr.heap.size ≤ W.heap.size) (hZ : Below wr.heap.size wr w1)
  (q0 : (nth l k).name.size ≤ maxLen) (q2 : IntKind.i64.min ≤ (nth l k).ver.maj ∧ (nth l k).ver.maj ≤ IntKind.i64.max) (q3 : IntKind.i64.min ≤ (nth l k).ver.min ∧ (nth l k).ver.min ≤ IntKind.i64.max)
  (z1 : RowIn W.heap.size w1 ((nth l k).recipe.map Enc.cells) y1 r1) (z4 : RowIn W.heap.size w1 ((nth l k).needs.map Enc.cells) y4 r4) (hap : ∀ x, r1 = some x → r4 ≠ some x)
  (hg : (w1.alloc (.cells sl T')).grownBy w3 out.ownBlock) (hob : v'.ownBlock = out.ownBlock ∨ v'.ownBlock = some (w1.alloc (.cells sl T')).heap.size) :
  Below w.heap.size w w3 ∧ Rows w.heap.size w3 v'.ownBlock (k + 1) l (xs ++ [.string (nth l k).name, y1, .int .i64 (nth l k).ver.maj, .int .i64 (nth l k).ver.min, y4]) (fun a => if a = k then y1 else u1 a) (fun a => if a = k then y4 else u4 a) (fun a => if a = k then r1 else ro a) (fun a => if a = k then r4 else no a) := by
 have hA : Below w1.heap.size w1 (w1.alloc (.cells sl T')) := (Below.refl _ _).alloc (Nat.le_refl _) _
 have hs1 := hZ.size
 have hsB := hB.size
 have ha := hA.size
 constructor
 ·have h2 : Below w.heap.size w (w1.alloc (.cells sl T')) := bt (bt hB hZ) hA
  refine ⟨hg.os.trans h2.os, hg.tape.trans h2.tape, hg.output.trans h2.output, Nat.le_trans h2.size hg.size, fun j hj => ?_⟩
  rw [hg.block j (by omega) fun e => by have := (owns_base hO e.symm).1; omega]
  exact h2.block j hj
 ·have R1 := (hR.move hs1 (fun j hj _ => hZ.block j hj) (.inl rfl)).move ha (fun j hj _ => hA.block j hj) (.inl rfl)
  have k1 : ∀ {rows : List (List D)} {u : Value} {r : Option Nat}, RowIn W.heap.size w1 rows u r → RowIn w.heap.size (w1.alloc (.cells sl T')) rows u r := fun h =>
   (h.keep ha (fun p v hp _ => by rw [hA.cell (block_lt_of_cell hp)]; exact hp) fun p hp _ => fro_of_block (hA.block p.block hp)).low (by omega)
  have old1 : ∀ a x, a < k → ro a = some x → x < wr.heap.size := fun a x ha e => ((hR.r1 a ha).le e).2
  have old4 : ∀ a x, a < k → no a = some x → x < wr.heap.size := fun a x ha e => ((hR.r4 a ha).le e).2
  have ob : ∀ x, out.ownBlock = some x → x < wr.heap.size := fun x e => (owns_base hO e).2
  have R2 := R1.snoc hk q0 q2 q3 (k1 z1) (k1 z4) (fun x e e2 => by have := (z1.le e).1; have := ob x e2; omega) (fun x e e2 => by have := (z4.le e).1; have := ob x e2; omega) hap
   (fun a x ha e => ⟨fun e2 => by have := (z1.le e).1; have := old1 a x ha e2; omega, fun e2 => by have := (z1.le e).1; have := old4 a x ha e2; omega⟩)
   (fun a x ha e => ⟨fun e2 => by have := (z4.le e).1; have := old1 a x ha e2; omega, fun e2 => by have := (z4.le e).1; have := old4 a x ha e2; omega⟩)
  refine R2.move hg.size (fun j hj hne => hg.block j hj hne) ?_
  rcases hob with e | e
  ·exact .inl e
  ·exact .inr fun x hx => by rw [e] at hx; cases hx; exact Nat.le_refl _
theorem h_copyEntries (l : List Entry) (hl : l.length ≤ 1048576) (hF : ∀ k, k < l.length → FunR Try.prog 37 Option.none [enc (nth l k)] (enc (nth l k)) [] [(1, 1), (4, 4)]) (w : World) (v : Value) (hv : R w (fun _ => False) (encS l) v) :
  Calls Try.prog 24 #[v] w fun e w' => ∃ v' xs u1 u4 ro no, e = .returned v' ∧ w'.ownsRow w.heap.size 42 5 v' l.length xs ∧ Rows w.heap.size w' v'.ownBlock l.length l xs u1 u4 ro no ∧ Below w.heap.size w w' := by
 have hlen := map_len (n := 5) (fun x => rfl) l
 obtain ⟨a, cap, rfl, hml, hel⟩ := arg_slice hlen hv
 rw [List.length_map] at hml ⊢
 have HE := Lib.hid hel
 clear hel hv
 obtain ⟨ti, hti, hz, hsz, hby⟩ := info_parts (P := Try.prog) (e := 42) (z := .agg #[.string ⟨#[]⟩, .slice Option.none 0 0, .int .i64 0, .int .i64 0, .slice Option.none 0 0]) (size := 5) (bytes := 80) (by kernel_rfl)
 go_enter Try.func24, Try.ntmps24
 go_wp2
 go_loopw [3, 8] (fun out ii wr => Below w.heap.size w wr ∧ ∃ (k : Nat) (xs : List Value) (u1 u4 : Nat → Value) (ro no : Nat → Option Nat), k ≤ l.length ∧ ii = .int .i64 (k : Int) ∧ wr.ownsRow w.heap.size 42 5 out k xs ∧ Rows w.heap.size wr out.ownBlock k l xs u1 u4 ro no) (fun _ ii _ => l.length - (intOf ii).toNat)
 case atStart => exact ⟨by go_grown, 0, [], _, _, _, _, by omega, rfl, World.ownsRow_nil _ _ _ _, Rows.nil⟩
 case round =>
  rename_i out _ _
  obtain ⟨hB, k, xs, u1, u4, ro, no, hk, rfl, hO, hR⟩ := hrel
  have HO := Lib.hid hO
  have HR := Lib.hid hR
  clear hO hR
  by_cases hlt : k < l.length
  ·have hrow := get_map l (k := k) (by omega)
   obtain ⟨b, o, us, rfl, hul, hus, hcell⟩ := HE.out k _ hrow
   obtain ⟨x0, x1, x2, x3, x4, rfl⟩ := len_5 hul
   have he0 := cell_keep hB (hcell 0 _ rfl); have he1 := cell_keep hB (hcell 1 _ rfl); have he2 := cell_keep hB (hcell 2 _ rfl); have he3 := cell_keep hB (hcell 3 _ rfl); have he4 := cell_keep hB (hcell 4 _ rfl)
   (try simp only [Nat.add_zero, Nat.mul_one] at he0)
   have hi0 : (0 : Int) ≤ (k : Int) := by omega
   have hi1 : (k : Int) < (l.length : Int) := by omega
   have hus' : R wr (fun _ => False) (enc (nth l k)) (.agg #[x0, x1, x2, x3, x4]) := ⟨_, rfl, Rs.keep (Keeps.below hB fun _ _ h => h) _ _ hus⟩
   have HC := Lib.hid (fun (w0 : World) (hb : Below wr.heap.size wr w0) => w_copyEntry (nth l k) (hF k hlt) (R.keep (Keeps.below hb fun _ _ h => h) _ _ hus'))
   obtain ⟨c0, _, hcc, ⟨rfl, _⟩, c1, _, rfl, hq1, c2, _, rfl, ⟨rfl, _⟩, c3, _, rfl, ⟨rfl, _⟩, c4, _, rfl, hq4, hq5⟩ := hus
   have hq5 : _ = [] := hq5
   subst hq5
   obtain ⟨a1, n1, p1, hx1, -⟩ := (show R w _ (.sl ((nth l k).recipe.map Enc.cells)) c1 from hq1)
   obtain ⟨a4, n4, p4, hx4, -⟩ := (show R w _ (.sl ((nth l k).needs.map Enc.cells)) c4 from hq4)
   subst hx1 hx4
   simp only [List.cons.injEq, and_true] at hcc
   obtain ⟨rfl, rfl, rfl, rfl, rfl⟩ := hcc
   clear hq1 hq4 hus' hcell
   go_wp2_with fail
   refine (HC.out _ (by go_grown)).mono ?_
   rintro e w1 ⟨y1, y4, r1, r4, rfl, hs1, hi2, hi3, z1, z4, hap, ho1', ho4', hb1⟩
   have HZ := Lib.hid (show Below wr.heap.size wr w1 from bt (by go_grown) hb1)
   have HZ1 := Lib.hid z1
   have HZ4 := Lib.hid z4
   have HAP := Lib.hid hap
   have HS1 := Lib.hid hs1
   have HI2 := Lib.hid hi2
   have HI3 := Lib.hid hi3
   have HO1 := Lib.hid (owns_below HO.out HZ.out)
   have hbs := Nat.le_trans hB.size HZ.out.size
   clear z1 z4 hap hs1 hi2 hi3 hb1
   go_wp2_with (first | (at_builtin; go_loud (refine wpList_append_own_at _ rfl _ _ 24 rfl w.heap.size 42 ti _ 5 80 Try.underlying24 hti hz hsz hby rfl (by decide) _ _ _ rfl (owns_below HO1.out ((Below.refl _ _).alloc (Nat.le_refl _) _)) ⟨w1.heap.size, 0, Option.none⟩ 1 1 [.string (nth l k).name, y1, .int .i64 (nth l k).ver.maj, .int .i64 (nth l k).ver.min, y4] rfl rfl cells_new (fun x hx => by simp at hx; rcases hx with rfl | rfl | rfl | rfl | rfl <;> first | rfl | assumption) (by unfold maxLen; omega) (by omega) (by simp; omega) ?_; intro v' w3 hown' hgr hnil hob)))
   have hfin := rows_append hB HO.out HR.out hlt (by simp) HZ.out HS1.out HI2.out HI3.out HZ1.out HZ4.out HAP.out hgr hob
   have HFin := Lib.hid hfin
   have HOw := Lib.hid hown'
   clear hfin hown' hgr hnil hob
   go_wp2
   exact ⟨⟨HFin.out.1, k + 1, _, _, _, _, _, by omega, by go_num, HOw.out, HFin.out.2⟩, by simp [intOf]; omega⟩
  ·go_wp2
   go_ret
   obtain rfl : k = l.length := by omega
   exact ⟨_, xs, u1, u4, ro, no, rfl, HO.out, HR.out, hB⟩
end Go.Proofs.Ytjmakbnblpjkhaa
/- Versions. -/
namespace Go.Proofs.Ytjmakbnblpjkhaa
open Go.RowKit Go
variable [GC]
def Ver.ok (v : Ver) : Bool := decide (0 ≤ v.maj) && decide (v.maj ≤ 99) && decide (0 ≤ v.min) && decide (v.min ≤ 99)
theorem c_spec_IsVersion (v : Ver) : Fun Try.prog 45 none [enc v] (.bool v.ok) [] := by
 refine Fun.ofV vc_spec_IsVersion_ok ty_spec_IsVersion_ok rfl ?_ (fun hfit => ?_)
 ·simp [ty_spec_IsVersion, HasTys, HasVT, HasV1, enc, ty_Ver]
 simp only [vc_spec_IsVersion, VC.den, E.den, dEq, gsH_nil, and_true, cells_Ver]
 simp [cmpI, Ver.ok]
end Go.Proofs.Ytjmakbnblpjkhaa
/- Plain functions on versions. No program in sight. -/
namespace Go.Proofs.Ytjmakbnblpjkhaa
def isFaceB (f : Int) : Bool := decide (0 ≤ f) && decide (f ≤ 63)
theorem isFaceB_nat {f : Int} (h : isFaceB f = true) : ∃ n : Nat, f = n ∧ n < 64 := by
 unfold isFaceB at h; simp at h; exact ⟨f.toNat, by omega, by omega⟩
def cmpV (a b c d : Int) : Int := if a < c ∨ (a = c ∧ b < d) then -1 else if a = c ∧ b = d then 0 else 1
def sinceM : Nat → Int | 0 => 1 | 1 => 1 | 2 => 1 | 3 => 1 | 4 => 2 | 5 => 2 | _ => 0
def sinceN : Nat → Int | 0 => 0 | 1 => 0 | 2 => 1 | 3 => 2 | 4 => 0 | 5 => 1 | _ => 0
def allows (a b : Int) (k : Nat) : Bool := decide (cmpV (sinceM k) (sinceN k) a b ≤ 0)
end Go.Proofs.Ytjmakbnblpjkhaa
/- Plain functions on faces. No program in sight. -/
namespace Go.Proofs.Ytjmakbnblpjkhaa
end Go.Proofs.Ytjmakbnblpjkhaa
/- Faces and versions: what the program and the reference compute. -/
namespace Go.Proofs.Ytjmakbnblpjkhaa
open Go.RowKit Go
variable [GC]
theorem c_impl_IsVersion (v : Ver) : Fun Try.prog 50 none [enc v] (.bool v.ok) [] := by
 refine Fun.ofV vc_impl_IsVersion_ok ty_impl_IsVersion_ok rfl ?_ (fun hfit => ?_)
 ·simp [ty_impl_IsVersion, HasTys, HasVT, HasV1, enc, ty_Ver]
 simp only [vc_impl_IsVersion, VC.den, E.den, dEq, gsH_nil, and_true, cells_Ver]
 simp [cmpI, Ver.ok]
theorem c_impl_IsFace (f : Int) : Fun Try.prog 58 none [.int .i64 f] (.bool (isFaceB f)) [] := by
 refine Fun.ofV vc_impl_IsFace_ok ty_impl_IsFace_ok rfl ?_ (fun hfit => ?_)
 ·simp [ty_impl_IsFace, HasTys, HasVT, HasV1, HasTy]
 simp only [vc_impl_IsFace, VC.den, E.den, dEq, gsH_nil, and_true]
 simp [cmpI, isFaceB]
theorem bit_of2 : ∀ n : Fin 64, ∀ k : Fin 6, cmpI .eql (arI .rem .i64 (arI .shr .i64 ((n : Nat) : Int) ((k : Nat) : Int)) 2) 1 = n.val.testBit k.val := by decide +kernel
end Go.Proofs.Ytjmakbnblpjkhaa
/- SinceOf of the program and of the reference. Nothing is assumed but what each theorem says. -/
namespace Go.Proofs.Ytjmakbnblpjkhaa
open Go.RowKit
end Go.Proofs.Ytjmakbnblpjkhaa
/- What faces a version allows: the program's and the reference's functions. -/
namespace Go.Proofs.Ytjmakbnblpjkhaa
open Go.RowKit Go
variable [GC]
theorem c_spec_l2Has (m k : Nat) (hm : m < 64) (hk : k < 6) : Fun Try.prog 81 none [.int .i64 m, .int .i64 k] (.bool (m.testBit k)) [] := by
 refine Fun.ofV vc_spec_l2Has_ok ty_spec_l2Has_ok rfl ?_ (fun hfit => ?_)
 ·simp [ty_spec_l2Has, HasTys, HasVT, HasV1, HasTy]
 unfold vc_spec_l2Has
 refine den_cond (fun _ => ?_) (den_cond (fun _ => rfl) (den_ret ?_))
 ·simp [E.den, cmpI]
 have hb := bit_of2 ⟨m, hm⟩ ⟨k, hk⟩
 simp only at hb
 simp only [E.den, List.getD_cons_zero, List.getD_cons_succ, D.toI_int, hb]
theorem c_spec_IsFace' (f : Int) : Fun Try.prog 56 none [.int .i64 f] (.bool (isFaceB f)) [] := by
 refine Fun.ofV vc_spec_IsFace_ok ty_spec_IsFace_ok rfl ?_ (fun hfit => ?_)
 ·simp [ty_spec_IsFace, HasTys, HasVT, HasV1, HasTy]
 simp only [vc_spec_IsFace, VC.den, E.den, dEq, gsH_nil, and_true]
 simp [cmpI, isFaceB]
def offersB (a b : Int) : Bool := isFaceB a && isFaceB b && cmpI .eql (arI .andNot .i64 b a) 0
theorem c_impl_Offers (a b : Int) : Fun Try.prog 75 none [.int .i64 a, .int .i64 b] (.bool (offersB a b)) [] := by
 refine Fun.ofV vc_impl_Offers_ok ty_impl_Offers_ok rfl ?_ (fun hfit => ?_)
 ·simp [ty_impl_Offers, HasTys, HasVT, HasV1, HasTy]
 unfold vc_impl_Offers
 (apply den_call; (focus (simp only [VC.den, E.den, dEq, gsH_nil, and_true]; try exact rfl)); (focus (exact c_impl_IsFace a)); (focus (simp [HasTys, HasVT, HasV1, HasTy, RowTy, HasVs, enc])); (simp only [cA]))
 (apply den_call; (focus (simp only [VC.den, E.den, dEq, gsH_nil, and_true]; try exact rfl)); (focus (exact c_impl_IsFace b)); (focus (simp [HasTys, HasVT, HasV1, HasTy, RowTy, HasVs, enc])); (simp only [cA]))
 exact den_ret rfl
end Go.Proofs.Ytjmakbnblpjkhaa
