/- Copies and answers whose memory is new: nothing in them is older than the call, and all of it may be written. -/
import Derived.Test.YthoafgehfgblaaaBMarkS
namespace Go.Proofs.Ythoafgehfgblaaa
open Go.RowKit Go
set_option linter.unusedVariables false
set_option linter.unusedSimpArgs false
set_option maxRecDepth 100000
theorem live_free {B : Nat} {w : World} {b o len cap n : Nat} {s : Option Nat} (h : LiveAt B w (.slice (some ⟨b, o, s⟩) len cap) n) (hc : 0 < cap) : B ≤ b ∧ ∀ x y, w.frozen? ⟨b, x, y⟩ = false := by
  obtain ⟨_, h2, cells, T, h3, _⟩ := h b o s len cap rfl hc
  refine ⟨h2, fun x y => ?_⟩
  unfold World.frozen?
  rw [h3]
  simp
/-- A row of leaves in a new block. -/
theorem nf_flat {w : World} {M : Addr → Prop} {rows : List (List D)} {v : Value} {n B : Nat} (hr : R w M (.sl rows) v) (hn : ∀ r ∈ rows, r.length = n) (hlf : ∀ r ∈ rows, ∀ d ∈ r, leafD d = true) (hl : LiveAt B w v n) : R w (NF w B) (.sl rows) v := by
  have hr0 := hr
  obtain ⟨a, len, cap, rfl, h1, h2, h3, h4, h5⟩ := hr
  rcases a with _ | ⟨b, o, s⟩
  · have : rows = [] := List.eq_nil_of_length_eq_zero (by have := h4 rfl; omega)
    subst this
    exact ⟨none, len, cap, rfl, h1, h2, h3, h4, fun b o s e => by cases e⟩
  · refine flat_of hn h1 h2 h3 (h5 b o s rfl).1 fun i j r d hi hj => ?_
    obtain ⟨u, c1, c2, c3⟩ := flat_cells hn hr0 hi hj
    have hlt := (List.getElem?_eq_some_iff.1 hi).1
    obtain ⟨q1, q2⟩ := live_free hl (by omega)
    refine ⟨u, c1, fun hm => ?_, leaf_move (hlf r (List.mem_of_getElem? hi) d (List.mem_of_getElem? hj)) c3⟩
    rcases hm with hm | hm
    · exact absurd q1 (by simpa using hm)
    · rw [q2] at hm; cases hm
theorem rtV_slice {a : Option Addr} {len cap n : Nat} : rtV (.slice a len cap) (0, n) = .slice a len cap := rfl
/-- An answer that is a row of leaves. -/
theorem fresh_calls {f : FuncId} {ds : List D} {rows : List (List D)} {n : Nat} (h : FunR Try.prog f none ds (.sl rows) [] [(0, n)]) (hn : ∀ r ∈ rows, r.length = n) (hlf : ∀ r ∈ rows, ∀ d ∈ r, leafD d = true) {w : World} {vs : List Value} (hr : Rs w (fun _ => False) ds vs) :
    Calls Try.prog f vs.toArray w fun e w' => ∃ v, e = .returned v ∧ R w' (NF w' w.heap.size) (.sl rows) v ∧ Below w.heap.size w w' := by
  refine (h.2 w _ 0 vs (rdy0 w) hr (fun cs h => by cases h)).mono ?_
  rintro e w' ⟨v, h1, h2, h3, h4, _⟩
  refine ⟨v, h1, nf_flat h2 hn hlf ?_, h3.to_below⟩
  have := h4.1 (0, n) (by simp)
  obtain ⟨a, len, cap, rfl, _⟩ := h2
  exact this
theorem str_flat (l : List ByteArray) : (∀ r ∈ l.map Enc.cells, r.length = 1) ∧ ∀ r ∈ l.map Enc.cells, ∀ d ∈ r, leafD d = true := by
  constructor
  · intro r hr; obtain ⟨x, _, rfl⟩ := List.mem_map.1 hr; rfl
  · intro r hr d hd
    obtain ⟨x, _, rfl⟩ := List.mem_map.1 hr
    simp [cells_str] at hd; subst hd; rfl
theorem need_flat (l : List Need) : (∀ r ∈ l.map Enc.cells, r.length = 4) ∧ ∀ r ∈ l.map Enc.cells, ∀ d ∈ r, leafD d = true := by
  constructor
  · intro r hr; obtain ⟨x, _, rfl⟩ := List.mem_map.1 hr; rfl
  · intro r hr d hd
    obtain ⟨x, _, rfl⟩ := List.mem_map.1 hr
    simp [cells_Need] at hd; rcases hd with rfl | rfl | rfl | rfl <;> rfl
theorem link_flat (l : List Link) : (∀ r ∈ l.map Enc.cells, r.length = 3) ∧ ∀ r ∈ l.map Enc.cells, ∀ d ∈ r, leafD d = true := by
  constructor
  · intro r hr; obtain ⟨x, _, rfl⟩ := List.mem_map.1 hr; rfl
  · intro r hr d hd
    obtain ⟨x, _, rfl⟩ := List.mem_map.1 hr
    simp [cells_Link] at hd; rcases hd with rfl | rfl | rfl <;> rfl
/-! The copy of an entry; of entries -/
theorem cR_toEntry (x : Entry) (h : Sm.sm x) : FunR Try.prog 82 none [enc x] (enc x) [] [(1, 1), (4, 4)] := by
  refine FunR.ofV vc_laws_toEntry_ok ty_laws_toEntry_ok rt_laws_toEntry_ok rfl ?_ (fun hfit => ?_)
  · exact ⟨ty_laws_Entry x, trivial⟩
  unfold vc_laws_toEntry
  ((first | refine den_call ?_ (c_laws_toStringS x.recipe (sm_list.1 (h.2.1)).1) (ty_strS _) ?_ | refine den_callR ?_ (c_laws_toStringS x.recipe (sm_list.1 (h.2.1)).1) (ty_strS _) ?_ | refine den_call ?_ (.ofR (c_laws_toStringS x.recipe (sm_list.1 (h.2.1)).1)) (ty_strS _) ?_); (focus (simp only [VC.den, E.den, dEq, gsH_nil, and_true, cells_Entry]; try exact rfl)); (simp only [List.cons_append, List.nil_append]))
  ((first | refine den_call ?_ (c_laws_toVersion x.ver) (ty_Ver _) ?_ | refine den_callR ?_ (c_laws_toVersion x.ver) (ty_Ver _) ?_ | refine den_call ?_ (.ofR (c_laws_toVersion x.ver)) (ty_Ver _) ?_); (focus (simp only [VC.den, E.den, dEq, gsH_nil, and_true, cells_Entry]; try exact rfl)); (simp only [List.cons_append, List.nil_append]))
  ((first | refine den_call ?_ (c_laws_toNeedS x.needs (sm_list.1 (h.2.2)).1 (sm_list.1 (h.2.2)).2) (ty_NeedS _) ?_ | refine den_callR ?_ (c_laws_toNeedS x.needs (sm_list.1 (h.2.2)).1 (sm_list.1 (h.2.2)).2) (ty_NeedS _) ?_ | refine den_call ?_ (.ofR (c_laws_toNeedS x.needs (sm_list.1 (h.2.2)).1 (sm_list.1 (h.2.2)).2)) (ty_NeedS _) ?_); (focus (simp only [VC.den, E.den, dEq, gsH_nil, and_true, cells_Entry]; try exact rfl)); (simp only [List.cons_append, List.nil_append]))
  exact den_ret (by simp [E.den, enc, cells_Entry, cells_Ver])
theorem flatV_one (x : Value) (h : ∀ cs, x ≠ .agg cs) (h' : ∀ cs, x ≠ .tuple cs) : flatV x = [x] := by
  cases x <;> first | rfl | exact absurd rfl (h _) | exact absurd rfl (h' _)
theorem w_toEntry (x : Entry) (h : Sm.sm x) {w : World} {v : Value} (hr : R w (fun _ => False) (enc x) v) :
    Calls Try.prog 82 #[v] w fun e w' => ∃ y0 y1 y2 y3 y4, e = .returned (.agg #[y0, y1, y2, y3, y4]) ∧ Rs w' (NF w' w.heap.size) (Enc.cells x) [y0, y1, y2, y3, y4] ∧ Below w.heap.size w w' := by
  refine ((cR_toEntry x h).2 w _ 0 [v] (rdy0 w) ⟨_, [], rfl, hr, rfl⟩ (fun cs h => by cases h)).mono ?_
  rintro e w' ⟨v', rfl, ⟨cs, rfl, h2⟩, h3, h4, _⟩
  obtain ⟨y0, _, hc, ⟨r01, r02⟩, y1, _, rfl, r1, y2, _, rfl, ⟨r21, r22⟩, y3, _, rfl, ⟨r31, r32⟩, y4, _, rfl, r4, hx⟩ := h2
  have hx : _ = [] := hx
  subst hx
  have hcs : cs = #[y0, y1, y2, y3, y4] := by rw [← Array.toList_inj, hc]
  subst hcs
  subst r01 r21 r31
  obtain ⟨a1, l1, c1, hy1, z1⟩ := (show R w' _ (.sl (x.recipe.map Enc.cells)) y1 from r1)
  obtain ⟨a4, l4, c4, hy4, z4⟩ := (show R w' _ (.sl (x.needs.map Enc.cells)) y4 from r4)
  have e1 := h4.1 (1, 1) (by simp)
  have e4 := h4.1 (4, 4) (by simp)
  have f1 : rtV (.agg #[.string x.name, y1, .int .i64 x.ver.maj, .int .i64 x.ver.min, y4]) (1, 1) = y1 := by
    subst hy1 hy4; rfl
  have f4 : rtV (.agg #[.string x.name, y1, .int .i64 x.ver.maj, .int .i64 x.ver.min, y4]) (4, 4) = y4 := by
    subst hy1 hy4; rfl
  rw [f1] at e1
  rw [f4] at e4
  refine ⟨_, _, _, _, _, rfl, ⟨_, _, rfl, ⟨rfl, r02⟩, _, _, rfl, ?_, _, _, rfl, ⟨rfl, r22⟩, _, _, rfl, ⟨rfl, r32⟩, _, _, rfl, ?_, rfl⟩, h3.to_below⟩
  · exact nf_flat r1 (str_flat _).1 (str_flat _).2 e1
  · exact nf_flat r4 (need_flat _).1 (need_flat _).2 e4
theorem own_less {w w' : World} {B g : Nat} {p : Addr} (hf : w'.frozen? p = w.frozen? p) : own (NF w' B) g p → own (NF w B) g p := by
  rintro ((h | h) | h)
  · exact .inl (.inl h)
  · exact .inl (.inr (by rw [← hf]; exact h))
  · exact .inr h
theorem RowN.keepNF {w w' : World} {B g : Nat} {T : TypeId} {len n k : Nat} {rows : List (List D)} (h : RowN w (own (NF w B) g) g T len n k rows) (hb : Below w.heap.size w w') : RowN w' (own (NF w' B) g) g T len n k rows := by
  obtain ⟨C, h1, h2, vs, h3, h4⟩ := h
  exact ⟨C, h1.below hb h1.lt, h2, vs, Rs.keep (Keeps.below hb fun p hp hm => own_less (fro_of_block (hb.block p.block hp)) hm) _ _ h3, h4⟩
theorem RowN.turn {w : World} {M M' : Addr → Prop} {g : Nat} {T : TypeId} {len n k : Nat} {rows : List (List D)} (h : RowN w M g T len n k rows) (hM : ∀ p, M' p → M p) : RowN w M' g T len n k rows := by
  obtain ⟨C, h1, h2, vs, h3, h4⟩ := h
  exact ⟨C, h1, h2, vs, Rs.keep (fun p v hp hn => ⟨hp, fun hm => hn (hM p hm)⟩) _ _ h3, h4⟩
theorem fro_setN (p : Addr) (g : Nat) : ∀ (us : List Value) (w : World) (o : Nat), (setN w g o us).frozen? p = w.frozen? p
  | [], _, _ => rfl
  | u :: r, w, o => by
    unfold setN
    rw [fro_setN p g r, fro_setCell]
theorem f_toEntryS (l : List Entry) (hs : l.length ≤ 1048576) (hx : ∀ k, k < l.length → Sm.sm (nth l k)) (w : World) (v : Value) (hv0 : R w (fun _ => False) (encS l) v) :
    Calls Try.prog 38 #[v] w fun e w' => ∃ v', e = .returned v' ∧ R w' (NF w' w.heap.size) (encS l) v' ∧ Below w.heap.size w w' := by
  have hlen := map_len (n := 5) (fun x => rfl) l
  obtain ⟨a, cap, rfl, hml, hel⟩ := arg_slice hlen hv0
  rw [List.length_map] at hml ⊢
  have HE := Lib.hid hel
  clear hel hv0
  have hmk := fun W => run_make_at (P := Try.prog) 24 30 (z := .agg #[.string ⟨#[]⟩, .slice none 0 0, .int .i64 0, .int .i64 0, .slice none 0 0]) (size := 5) (bytes := 80) Try.underlying24 (by kernel_rfl) .i64 .i64 l.length (by omega) (by omega) W
  go_enter Try.func38, Try.ntmps38
  go_wp2
  go_loopw [4] (fun i wr => Below w.heap.size w wr ∧ ∃ k : Nat, k ≤ l.length ∧ i = .int .i64 k ∧ RowN wr (own (NF wr w.heap.size) w.heap.size) w.heap.size 30 l.length 5 k (l.map Enc.cells)) (fun i _ => l.length - (intOf i).toNat)
  case atStart => exact ⟨by go_grown, 0, by omega, rfl, RowN.new (RBlk.new _ _ _) (by rw [size_madeCells])⟩
  case round =>
    obtain ⟨hB, k, hk, rfl, hR⟩ := hrel
    have hBs := hB.size
    have hgl := hR.lt
    by_cases hlt : k < l.length
    · have hrow := get_map l (k := k) (by omega)
      obtain ⟨b, o, us, rfl, hul, hus, hcell⟩ := HE.out k _ hrow
      obtain ⟨u0, u1, u2, u3, u4, rfl⟩ := len_5 hul
      have he0 := cell_keep hB (hcell 0 _ rfl); have he1 := cell_keep hB (hcell 1 _ rfl); have he2 := cell_keep hB (hcell 2 _ rfl); have he3 := cell_keep hB (hcell 3 _ rfl); have he4 := cell_keep hB (hcell 4 _ rfl)
      (try simp only [Nat.add_zero, Nat.mul_one] at he0)
      have hi0 : (0 : Int) ≤ (k : Int) := by omega
      have hi1 : (k : Int) < (l.length : Int) := by omega
      have hus' : R wr (fun _ => False) (enc (nth l k)) (.agg #[u0, u1, u2, u3, u4]) := ⟨_, rfl, Rs.keep (Keeps.below hB fun _ _ h => h) _ _ hus⟩
      have HC := Lib.hid (fun (w0 : World) (hb : Below wr.heap.size wr w0) => w_toEntry (nth l k) (hx k hlt) (R.keep (Keeps.below hb fun _ _ h => h) _ _ hus'))
      have HBK := Lib.hid hR
      clear hR hus hus' hcell
      go_wp2_with fail
      refine (HC.out _ (by go_grown)).mono ?_
      rintro e w1 ⟨y0, y1, y2, y3, y4, rfl, hr1, hb1⟩
      have hR1 := HBK.out.keepNF hb1
      have hr1' : Rs w1 (own (NF w1 w.heap.size) w.heap.size) (Enc.cells (nth l k)) [y0, y1, y2, y3, y4] := Rs.keep (fun p u hp hn => ⟨hp, fun hm => hn (by
        rcases hm with (hm | hm) | hm
        · exact .inl (by omega)
        · exact .inr hm
        · exact .inl (by omega))⟩) _ _ hr1
      have hone := cells_one (ty_Entry (nth l k)) hr1
      have hbk := hR1.blkN
      obtain ⟨hst0, hbk0⟩ := hbk.store (P := Try.prog) (o := k * 5) (v := y0) (by have := off_lt (n := 5) (j := 0) hlt (by decide); omega) (hone _ (by simp)); obtain ⟨hst1, hbk1⟩ := hbk0.store (P := Try.prog) (o := k * 5 + 1) (v := y1) (by have := off_lt (n := 5) (j := 1) hlt (by decide); omega) (hone _ (by simp)); obtain ⟨hst2, hbk2⟩ := hbk1.store (P := Try.prog) (o := k * 5 + 2) (v := y2) (by have := off_lt (n := 5) (j := 2) hlt (by decide); omega) (hone _ (by simp)); obtain ⟨hst3, hbk3⟩ := hbk2.store (P := Try.prog) (o := k * 5 + 3) (v := y3) (by have := off_lt (n := 5) (j := 3) hlt (by decide); omega) (hone _ (by simp)); obtain ⟨hst4, hbk4⟩ := hbk3.store (P := Try.prog) (o := k * 5 + 4) (v := y4) (by have := off_lt (n := 5) (j := 4) hlt (by decide); omega) (hone _ (by simp))
      have hx := (hR1.step hlt hrow hlen hr1').turn (M' := own (NF (setN w1 w.heap.size (k * 5) [y0, y1, y2, y3, y4]) w.heap.size) w.heap.size) fun p hm => own_less (fro_setN _ _ _ _ _) hm
      have HX := Lib.hid hx
      clear hx hr1 hr1' hR1 hbk hbk0 hbk1 hbk2 hbk3 hbk4
      go_wp2
      exact ⟨⟨by have h2 := bt hB hb1; go_grown, k + 1, by omega, by go_num, HX.out⟩, by simp [intOf]; omega⟩
    · go_wp2
      go_ret
      obtain rfl : k = l.length := by omega
      refine ⟨_, rfl, ?_, hB⟩
      refine hR.done (by simp) hlen (fun p hp hm => ?_) (by unfold maxLen; omega)
      rcases hm with hm | hm
      · omega
      · have := hR.free p.off
        have e : wr.frozen? p = wr.frozen? ⟨w.heap.size, p.off, none⟩ := by
          unfold World.frozen?
          rw [hp]
        rw [e, this] at hm; cases hm
end Go.Proofs.Ythoafgehfgblaaa
