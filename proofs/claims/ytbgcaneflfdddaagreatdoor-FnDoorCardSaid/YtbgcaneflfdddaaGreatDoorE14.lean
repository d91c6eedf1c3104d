/- Walks over a part in a box: where a walk stands; regions that draw; appends onto rows of one's own. -/
import Derived.Test.YtbgcaneflfdddaaGreatDoorE13
import Derived.ArgAppend
import Derived.Deep.RegionLaw
import Derived.Maps.AppendAt
import Derived.RegionTactic
import Derived.Deep.DeepCutAuto
import Derived.Deep.CutBlock
import Derived.ChangeAlike
set_option linter.unusedVariables false
set_option linter.unusedSimpArgs false
set_option linter.unusedSectionVars false
set_option maxRecDepth 100000
namespace Go.Proofs.YtbgcaneflfdddaaGreatDoor
open Go.RowKit Go
variable [GC]
theorem sI : (∀ {α : Type} {l : List α} {i : Nat} {a : α}, l.toArray.setIfInBounds i a = (l.set i a).toArray) ∧ (∀ {α : Type} {x b : α} {xs : List α}, (x :: xs).set 0 b = b :: xs) ∧ (∀ {α : Type} {x : α} {n : Nat} {xs : List α} {b : α}, (x :: xs).set (n + 1) b = x :: xs.set n b) := ⟨by intros; simp, by intros; rfl, by intros; rfl⟩
theorem rzs {w : World} {b : Nat} {T : TypeId} (h : RBlk w b T #[.int .i64 0, .int .i64 0, .string ⟨#[]⟩, .int .i64 0, .int .i64 0]) : w.cell? ⟨b, 0, none⟩ = some (.int .i64 0) ∧ w.cell? ⟨b, 1, none⟩ = some (.int .i64 0) ∧ w.cell? ⟨b, 2, none⟩ = some (.string ⟨#[]⟩) ∧ w.cell? ⟨b, 3, none⟩ = some (.int .i64 0) ∧ w.cell? ⟨b, 4, none⟩ = some (.int .i64 0) ∧ ∀ i, w.frozen? ⟨b, i, none⟩ = false := ⟨by rw [h.cell]; rfl, by rw [h.cell]; rfl, by rw [h.cell]; rfl, by rw [h.cell]; rfl, by rw [h.cell]; rfl, h.frozen⟩
def callV (x : Call) : Value := .agg #[.string x.method, .string x.key, .int .i64 x.val, .string x.text]
def replyV (r : Reply) : Value := .agg #[.int .i64 r.code, .int .i64 r.val, .string r.text, .int .i64 r.want, .int .i64 r.had]
structure CallFits (x : Call) : Prop where
  method : x.method.size ≤ maxLen
  key : x.key.size ≤ maxLen
  val : IntKind.i64.min ≤ x.val ∧ x.val ≤ IntKind.i64.max
  text : x.text.size < 4294967281
def AfterB (K : Nat → Prop) (w : World) (g : Nat) (S2 : Value) (y : Part × Reply) (e : Ending) (w' : World) : Prop :=
  e = .returned (replyV y.2) ∧ PB (Gr K w w') w' g S2 y.1 ∧ FrK K w w'
def onCore (p : Part) (y : Core × Reply) : Part × Reply := (⟨y.1, p.layers⟩, y.2)
structure St (K : Nat → Prop) (w : World) (g : Nat) (S2 : Value) (K' : Nat → Prop) (p : Part) (wi : World) : Prop where
  pb : PB K' wi g S2 p
  nb : NG ≤ w.heap.size
  sub : ∀ b, K' b → K b ∨ (w.heap.size ≤ b ∧ b < wi.heap.size)
  fr : FrK K w wi
section
variable {K K' : Nat → Prop} {w wi wj : World} {g : Nat} {S2 : Value} {p q : Part}
theorem St.start (h : PB K w g S2 p) : St K w g S2 K p w := ⟨h, h.gi.2, fun b hb => .inl hb, FrK.refl _ _⟩
theorem FrK.transB {a b c : World} (h : FrK K a b) (k : Below b.heap.size b c) : FrK K a c :=
  ⟨k.os.trans h.os, k.tape.trans h.tape, k.output.trans h.output, Nat.le_trans h.size k.size, fun i hi hn => (k.block i (Nat.lt_of_lt_of_le hi h.size)).trans (h.block i hi hn)⟩
theorem St.below (h : St K w g S2 K' p wi) (hb : Below wi.heap.size wi wj) : St K w g S2 K' p wj :=
  ⟨h.pb.below hb, h.nb, fun b hk => (h.sub b hk).imp id fun h => ⟨h.1, Nat.lt_of_lt_of_le h.2 hb.size⟩, h.fr.transB hb⟩
theorem PB.far (h : PB K w g S2 p) {a : Addr} (v : Value) (ha : ¬ K a.block) (hn : NG ≤ a.block) : PB K (w.setCell a v) g S2 p := by
  obtain ⟨S1, q1, q2, q3⟩ := h.bx
  refine ⟨giK h.gi hn, fun b hb => by have := h.kb b hb; simpa using this, h.kg, ⟨S1, q1.far (fun e => ha (by rw [← e]; exact h.kg)) v, ?_, q3⟩, ?_, h.ks, h.ct⟩
  · exact q2.keep (fun b ho => heap_set_ne fun e => ha (by rw [← e]; exact (q2.out ho).1)) fun _ h => h
  · exact h.ly.keep (fun b ho => heap_set_ne fun e => ha (by rw [← e]; exact (h.ly.out ho).1)) fun _ h => h
theorem FrK.transS {a b : World} (h : FrK K a b) {q : Addr} (v : Value) (hq : K q.block ∨ a.heap.size ≤ q.block) : FrK K a (b.setCell q v) :=
  ⟨h.os, h.tape, h.output, by simpa using h.size, fun i hi hn => (heap_set_ne (fun e => by rcases hq with hq | hq; exact hn (e ▸ hq); omega)).trans (h.block i hi hn)⟩
theorem St.far (h : St K w g S2 K' p wi) {a : Addr} (v : Value) (ha : ¬ K' a.block) (hw : w.heap.size ≤ a.block) : St K w g S2 K' p (wi.setCell a v) :=
  ⟨h.pb.far v ha (Nat.le_trans h.nb hw), h.nb, fun b hk => by simpa using h.sub b hk, h.fr.transS v (.inr hw)⟩
theorem St.put (h : St K w g S2 K' p wi) {a : Addr} {v : Value} (ha : K' a.block) (hp : PB K' (wi.setCell a v) g S2 q) : St K w g S2 K' q (wi.setCell a v) :=
  ⟨hp, h.nb, fun b hk => by simpa using h.sub b hk, h.fr.transS v ((h.sub _ ha).imp id fun h => h.1)⟩
theorem St.call (h : St K w g S2 K' p wi) (hp : PB (Gr K' wi wj) wj g S2 q) (hf : FrK K' wi wj) : St K w g S2 (Gr K' wi wj) q wj :=
  ⟨hp, h.nb, fun b hk => by
    rcases hk with hk | hk
    · exact (h.sub b hk).imp id fun z => ⟨z.1, Nat.lt_of_lt_of_le z.2 hf.size⟩
    · exact .inr ⟨Nat.le_trans h.fr.size hk.1, hk.2⟩,
   ⟨hf.os.trans h.fr.os, hf.tape.trans h.fr.tape, hf.output.trans h.fr.output, Nat.le_trans h.fr.size hf.size, fun i hi hn => (hf.block i (Nat.lt_of_lt_of_le hi h.fr.size) fun hk => by rcases h.sub i hk with hk | hk; exact hn hk; omega).trans (h.fr.block i hi hn)⟩⟩
theorem St.done (h : St K w g S2 K' p wi) (hp : PB K w g S2 q) {r : Reply} : AfterB K w g S2 (p, r) (.returned (replyV r)) wi :=
  ⟨rfl, h.pb.mono h.sub fun b hb => by
    rcases hb with hb | hb
    · have := hp.kb b hb; exact ⟨this.1, Nat.lt_of_lt_of_le this.2 h.fr.size⟩
    · exact ⟨Nat.le_trans h.nb hb.1, hb.2⟩, h.fr⟩
end
def zReply : Array Value := #[.int .i64 0, .int .i64 0, .string ⟨#[]⟩, .int .i64 0, .int .i64 0]
theorem done_reply {K K' : Nat → Prop} {w wi : World} {g b : Nat} {S2 : Value} {p q : Part} (hS : St K w g S2 K' p wi) (h : PB K w g S2 q) (hR : RBlk wi b 34 zReply) (hb : w.heap.size ≤ b) (hk : ¬ K' b) (r : Reply) :
    RBlk (((((wi.setCell ⟨b, 0, none⟩ (.int .i64 r.code)).setCell ⟨b, 1, none⟩ (.int .i64 r.val)).setCell ⟨b, 2, none⟩ (.string r.text)).setCell ⟨b, 3, none⟩ (.int .i64 r.want)).setCell ⟨b, 4, none⟩ (.int .i64 r.had)) b 34 #[.int .i64 r.code, .int .i64 r.val, .string r.text, .int .i64 r.want, .int .i64 r.had] ∧
    AfterB K w g S2 (p, r) (.returned (replyV r)) (((((wi.setCell ⟨b, 0, none⟩ (.int .i64 r.code)).setCell ⟨b, 1, none⟩ (.int .i64 r.val)).setCell ⟨b, 2, none⟩ (.string r.text)).setCell ⟨b, 3, none⟩ (.int .i64 r.want)).setCell ⟨b, 4, none⟩ (.int .i64 r.had)) :=
  ⟨((((hR.set_ 0 (.int .i64 r.code)).set_ 1 (.int .i64 r.val)).set_ 2 (.string r.text)).set_ 3 (.int .i64 r.want)).set_ 4 (.int .i64 r.had),
   (((((hS.far (a := ⟨b, 0, none⟩) _ hk hb).far (a := ⟨b, 1, none⟩) _ hk hb).far (a := ⟨b, 2, none⟩) _ hk hb).far (a := ⟨b, 3, none⟩) _ hk hb).far (a := ⟨b, 4, none⟩) _ hk hb).done h⟩
theorem toList_inj {a b : ByteArray} (h : a.toList = b.toList) : a = b := by
  have := toList_eqB a b
  rw [h] at this
  simpa using this.symm
theorem region_still_gen {P : Program} {id : Nat} {Q : Exit → Act → World → Prop} {a : Act} {w : World} {l : List Oper} (hm : P.follows .mixedOrders = true) (hB : Region.lexB .any l.toArray = true)
    (h : ∀ wd : World, wd.heap = w.heap → Below w.heap.size w wd → wpStill P l.toArray wd (fun a' => Q .normal a' wd) l a) : (Code.region id l.toArray true).wp P Q a w :=
  wp_region_still_lit hm hB (h _ rfl ⟨rfl, rfl, rfl, Nat.le_refl _, fun _ _ => rfl⟩)
theorem region_tail_gen {P : Program} {id : Nat} {Q : Exit → Act → World → Prop} {a : Act} {w : World} {l : List Oper} (n : Nat) (hm : P.follows .mixedOrders = true) (hB : Region.lexTailB .any l.toArray n = true)
    (h : ∀ wd : World, wd.heap = w.heap → Below w.heap.size w wd → wpStill P l.toArray wd (fun a' => wpList P l.toArray Q (l.drop n) a' wd) (l.take n) a) : (Code.region id l.toArray true).wp P Q a w :=
  wp_region_still_tail n hm hB (h _ rfl ⟨rfl, rfl, rfl, Nat.le_refl _, fun _ _ => rfl⟩)
theorem and1_bit (n : Nat) (hn : n < 64) : bits .and .i64 (n : Int) 1 = if n.testBit 0 then 1 else 0 := by
  rw [show (1 : Int) = ((1 : Nat) : Int) from rfl, i64_and_nat n 1 (by omega) (by omega), Nat.and_one_is_mod]
  simp [Nat.testBit_zero]
  split <;> omega
theorem w_KindFace {K : Nat → Prop} {w : World} {g : Nat} {S2 : Value} {p : Part} (h : PB K w g S2 p) (s : ByteArray) (hs : s.size ≤ maxLen) (w0 : World) (hb : Below w.heap.size w w0) :
    Calls Tryz.prog 104 #[.string s] w0 fun e w' => e = .returned (.tuple #[.int .i64 (kindN s), .bool (kindOk s)]) ∧ Below w0.heap.size w0 w' := by
  refine (Fun.calls (c_impl_KindFace s) (vs := [.string s]) (h.below hb).rdy ⟨_, [], rfl, ⟨rfl, hs⟩, rfl⟩).mono ?_
  rintro e w' ⟨v, rfl, ⟨cs, rfl, v1, r1, e1, ⟨rfl, _⟩, v2, r2, rfl, rfl, rfl⟩, h3⟩
  have : cs = #[.int .i64 (kindN s), .bool (kindOk s)] := by rw [← Array.toList_inj, e1]
  subst this
  exact ⟨rfl, h3⟩
theorem w_countUp {K : Nat → Prop} {w : World} {g : Nat} {S2 : Value} {p : Part} (h : PB K w g S2 p) (n : Int) (hn : IntKind.i64.min ≤ n ∧ n ≤ IntKind.i64.max) :
    Calls Tryz.prog 97 #[.int .i64 n] w fun e w' => e = .returned (.int .i64 (up3 n)) ∧ Below w.heap.size w w' ∧ (IntKind.i64.min ≤ up3 n ∧ up3 n ≤ IntKind.i64.max) := by
  refine (Fun.calls (c_impl_countUp n) (vs := [.int .i64 n]) h.rdy ⟨_, [], rfl, ⟨rfl, hn⟩, rfl⟩).mono ?_
  rintro e w' ⟨v, rfl, ⟨rfl, h1⟩, h3⟩
  exact ⟨rfl, h3, h1⟩
def flatL (l : List (ByteArray × Int)) : List Value := l.flatMap fun x => [.string x.1, .int .i64 x.2]
theorem flatL_len (l : List (ByteArray × Int)) : (flatL l).length = l.length * 2 := by
  induction l with
  | nil => rfl
  | cons a t ih => simp only [flatL, List.flatMap_cons, List.length_append, List.length_cons, List.length_nil] at ih ⊢; rw [ih]; omega
theorem flatL_one (l : List (ByteArray × Int)) : ∀ u ∈ flatL l, u.oneCell' = true := fun u hu => by
  obtain ⟨x, _, hx⟩ := List.mem_flatMap.1 hu
  simp at hx
  rcases hx with rfl | rfl <;> rfl
theorem flatL_app (l m : List (ByteArray × Int)) : flatL (l ++ m) = flatL l ++ flatL m := by simp [flatL]
theorem flatL_get : ∀ (l : List (ByteArray × Int)) (j : Nat) (u : Value), (flatL l)[j]? = some u → ∃ i, i < l.length ∧ ((j = i * 2 ∧ u = .string (nth l i).1) ∨ (j = i * 2 + 1 ∧ u = .int .i64 (nth l i).2))
  | [], j, u, h => by simp [flatL] at h
  | x :: r, j, u, h => by
    have e : flatL (x :: r) = .string x.1 :: .int .i64 x.2 :: flatL r := rfl
    rw [e] at h
    match j, h with
    | 0, h => simp at h; exact ⟨0, by simp, .inl ⟨rfl, by rw [← h, nth_zero]⟩⟩
    | 1, h => simp at h; exact ⟨0, by simp, .inr ⟨rfl, by rw [← h, nth_zero]⟩⟩
    | j + 2, h =>
      obtain ⟨i, hi, h2⟩ := flatL_get r j u (by simpa using h)
      refine ⟨i + 1, by simpa using hi, ?_⟩
      rw [nth_cons]
      rcases h2 with ⟨a, b⟩ | ⟨a, b⟩
      · exact .inl ⟨by omega, b⟩
      · exact .inr ⟨by omega, b⟩
theorem Row2.flat {K : Nat → Prop} {w : World} {g : Nat} {ad : Addr} {n cap : Nat} {l : List (ByteArray × Int)} (h : Row2 K w g (.slice (some ad) n cap) l) (k : Nat) : ∀ j u, (flatL (l.drop k))[j]? = some u → w.cell? (ad.add (k * 2 + j)) = some u := fun j u hu => by
  obtain ⟨i, hi, h2⟩ := flatL_get _ j u hu
  have hi' : k + i < l.length := by simp at hi; omega
  have hn : nth (l.drop k) i = nth l (k + i) := by simp [nth, List.getD_eq_getElem?_getD]
  obtain ⟨b, o, cp, e, _, _, _, c0, c1, _⟩ := h.at hi'
  simp only [Value.slice.injEq, Option.some.injEq] at e
  obtain ⟨rfl, _, _⟩ := e
  rw [Addr.add_lit]
  rw [hn] at h2
  rcases h2 with ⟨rfl, rfl⟩ | ⟨rfl, rfl⟩
  · rw [← c0]; congr 2; omega
  · rw [← c1]; congr 2; omega
theorem Row2.flatT {K : Nat → Prop} {w : World} {g : Nat} {ad : Addr} {n cap : Nat} {l : List (ByteArray × Int)} (h : Row2 K w g (.slice (some ad) n cap) l) (k : Nat) : ∀ j u, (flatL (l.take k))[j]? = some u → w.cell? (ad.add j) = some u := fun j u hu => by
  have e : flatL l = flatL (l.take k) ++ flatL (l.drop k) := by rw [← flatL_app, List.take_append_drop]
  have := h.flat 0 j u (by rw [List.drop_zero, e, List.getElem?_append_left (List.getElem?_eq_some_iff.1 hu).1]; exact hu)
  simpa using this
theorem addr_add2 (a : Addr) (m j : Nat) : (a.add m).add j = a.add (m + j) := by
  obtain ⟨b, o, s⟩ := a
  unfold Addr.add
  by_cases h1 : m = 0
  · subst h1; simp
  · by_cases h2 : j = 0
    · subst h2; simp [h1]
    · simp [h1, h2, Nat.add_assoc]
theorem owns_slice {w : World} {B n sz : Nat} {e : TypeId} {v : Value} {xs : List Value} (h : w.ownsRow B e sz v n xs) : ∃ a c, v = .slice a n c := by
  obtain ⟨_, ⟨rfl, rfl⟩ | ⟨g', cap, cur, rfl, _⟩⟩ := h
  · exact ⟨_, _, rfl⟩
  · exact ⟨_, _, rfl⟩
theorem cells_newL {w : World} {xs : List Value} {T : TypeId} : ∀ (j : Nat) (u : Value), xs[j]? = some u → (w.alloc (.cells xs.toArray T)).cell? ((⟨w.heap.size, 0, Option.none⟩ : Addr).add j) = some u := fun j u h => by
  rw [Addr.add_lit]
  unfold World.cell?
  have : (w.alloc (.cells xs.toArray T)).heap[w.heap.size]? = some (.cells xs.toArray T (0, 0)) := heap_alloc_new w _
  simp only [this]
  simpa using h
theorem owns_belowL {w w' : World} {B n sz : Nat} {e : TypeId} {v : Value} {xs : List Value} (h : w.ownsRow B e sz v n xs) (hb : Below w.heap.size w w') : w'.ownsRow B e sz v n xs := by
  obtain ⟨h0, h | ⟨g', cap, cur, h1, h2, h3, h4⟩⟩ := h
  · exact ⟨h0, .inl h⟩
  · exact ⟨h0, .inr ⟨g', cap, cur, h1, h2, by rw [hb.block g' (Array.getElem?_eq_some_iff.1 h3).1]; exact h3, h4⟩⟩
theorem step_append_own {P : Program} {ops : Array Oper} {o : Oper} {a : Act} {w w0 : World} {K : Act → World → Prop} {Q : Exit → Act → World → Prop} {E : Prop}
    (hg : o.guard = none) (s x : Operand) (t : TypeId) (hop : o.op = Op.call { callee := Callee.builtin Builtin.append, args := #[s, x], argTypes := #[t, t] })
    (e : TypeId) (i : TypeInfo) (z : Value) (size bytes : Nat) (ht : P.underlying t = some (.slice e)) (hi : P.info? e = some i) (hz : i.zero = some z)
    (hsize : i.size = size) (hby : i.bytes = bytes) (hzs : z.cells.size = size) (hsz : 0 < size)
    (v : Value) (n : Nat) (xs : List Value) (hs : a.eval s = v) (hown : w.ownsRow w0.heap.size e size v n xs)
    (ad : Addr) (m c : Nat) (news : List Value) (hx : a.eval x = .slice (some ad) m c) (hl : news.length = m * size) (hnews : ∀ j u, news[j]? = some u → w.cell? (ad.add j) = some u) (h1 : ∀ u ∈ news, u.oneCell' = true)
    (h63 : n + m ≤ maxLen) (hbytes : (n + m) * bytes ≤ 140737488355328) (hb0 : Below w0.heap.size w0 w)
    (hK : ∀ v' w', w'.ownsRow w0.heap.size e size v' (n + m) (xs ++ news) → Below w0.heap.size w0 w' → (v.ownBlock = none → Below w.heap.size w w') → K (a.put o.dst v') w') :
    if Region.wanted o (yielded ops a.tmps) = true then Oper.wp P o a w K Q else E := by
  have hw : Region.wanted o (yielded ops a.tmps) = true := by simp [Region.wanted, hg]
  rw [if_pos hw]
  obtain ⟨v', w', hr, h2, h3, h4, h5⟩ := run_append_own_at (P := P) w w0.heap.size t o.type e i z size bytes ht hi hz hsize hby hzs hsz v n xs hown ad m c news hl hnews h1 h63 hbytes hb0.size
  unfold Oper.wp execOp
  simp only [hop, resolve, invoke, builtin, Sem.run_bind, Sem.run_pure, Result.andThen_ok, List.map_toArray, List.map_cons, List.map_nil, hs, hx, hr]
  refine hK _ _ h2 ?_ fun hn => ⟨h3.os, h3.tape, h3.output, h3.size, fun k hk => h3.block k hk (by rw [hn]; simp)⟩
  refine ⟨h3.os.trans hb0.os, h3.tape.trans hb0.tape, h3.output.trans hb0.output, Nat.le_trans hb0.size h3.size, fun k hk => ?_⟩
  rw [h3.block k (Nat.lt_of_lt_of_le hk hb0.size) (fun e => ?_)]
  · exact hb0.block k hk
  · obtain ⟨_, ⟨rfl, _⟩ | ⟨g', cap, cur, rfl, hge, _⟩⟩ := hown
    · cases e
    · have e : some k = some g' := e
      cases e; omega
theorem RBlk.frk {K : Nat → Prop} {w w' : World} {b : Nat} {T : TypeId} {cs : Array Value} (h : RBlk w b T cs) (hf : FrK K w w') (hk : ¬ K b) : RBlk w' b T cs := (hf.block b h.lt hk).trans h
def KeepOk : Prop := ∀ (K : Nat → Prop) (w : World) (g : Nat) (S2 : Value) (p : Part) (x : Call), PB K w g S2 p → CallFits x →
  Calls Tryz.prog 129 #[.pointer (some ⟨g, 0, none⟩), callV x] w (AfterB K w g S2 (onCore p (keepD p.core x)))
def DoesOk : Prop := ∀ (K : Nat → Prop) (w : World) (g : Nat) (S2 : Value) (p : Part) (x : Call), PB K w g S2 p → CallFits x →
  Calls Tryz.prog 95 #[.pointer (some ⟨g, 0, none⟩), callV x] w (AfterB K w g S2 (onCore p (doesD p.core x)))
end Go.Proofs.YtbgcaneflfdddaaGreatDoor
/- Walk: a call within the layers of a part in a box (through). -/
namespace Go.Proofs.YtbgcaneflfdddaaGreatDoor
open Go.RowKit Go
variable [GC]
theorem PB.lay {K : Nat → Prop} {w : World} {g b o n cap k : Nat} {p : Part} (h : PB K w g (.slice (some ⟨b, o, none⟩) n cap) p) (hk : k < p.layers.length) :
    w.cell? ⟨b, o + k * 2, none⟩ = some (.string (nth p.layers k).name) ∧ w.cell? ⟨b, o + k * 2 + 1, none⟩ = some (.int .i64 (nth p.layers k).count) ∧ (∀ i, w.frozen? ⟨b, i, none⟩ = false) ∧ K b ∧ b ≠ g ∧ (IntKind.i64.min ≤ (nth p.layers k).count ∧ (nth p.layers k).count ≤ IntKind.i64.max) := by
  have hi : k < (prL p.layers).length := by rw [prL_len]; exact hk
  obtain ⟨b', o', cp, e, h1, h2, h3, h4, h5, h6, h7⟩ := h.ly.at hi
  simp only [Value.slice.injEq, Option.some.injEq, Addr.mk.injEq, and_true] at e
  obtain ⟨⟨rfl, rfl⟩, _, _⟩ := e
  rw [prL_nth hk] at h4 h5
  have := h.ly.okn hi
  rw [prL_nth hk] at this
  exact ⟨h4, h5, fun i => h6 i none, h1, h2, this.2⟩
structure Loc (w : World) (g k : Nat) (x : Call) (K' : Nat → Prop) (wi : World) : Prop where
  b0 : RBlk wi w.heap.size 89 #[.pointer (some ⟨g, 0, none⟩)]
  b1 : RBlk wi (w.heap.size + 1) 3 #[.int .i64 ((k + 1 : Nat) : Int)]
  b2 : RBlk wi (w.heap.size + 1 + 1) 39 #[.string x.method, .string x.key, .int .i64 x.val, .string x.text]
  b3 : RBlk wi (w.heap.size + 1 + 1 + 1) 34 zReply
  n0 : ¬ K' w.heap.size
  n1 : ¬ K' (w.heap.size + 1)
  n2 : ¬ K' (w.heap.size + 1 + 1)
  n3 : ¬ K' (w.heap.size + 1 + 1 + 1)
theorem Loc.below {w wi wj : World} {g k : Nat} {x : Call} {K' : Nat → Prop} (h : Loc w g k x K' wi) (hb : Below wi.heap.size wi wj) : Loc w g k x K' wj :=
  { h with b0 := h.b0.below hb h.b0.lt, b1 := h.b1.below hb h.b1.lt, b2 := h.b2.below hb h.b2.lt, b3 := h.b3.below hb h.b3.lt }
theorem Loc.call {w wi wj : World} {g k : Nat} {x : Call} {K' : Nat → Prop} (h : Loc w g k x K' wi) (hf : FrK K' wi wj) : Loc w g k x (Gr K' wi wj) wj :=
  ⟨h.b0.frk hf h.n0, h.b1.frk hf h.n1, h.b2.frk hf h.n2, h.b3.frk hf h.n3,
   fun q => by rcases q with q | q; exact h.n0 q; have := h.b0.lt; omega, fun q => by rcases q with q | q; exact h.n1 q; have := h.b1.lt; omega,
   fun q => by rcases q with q | q; exact h.n2 q; have := h.b2.lt; omega, fun q => by rcases q with q | q; exact h.n3 q; have := h.b3.lt; omega⟩
theorem Loc.far {w wi : World} {g k : Nat} {x : Call} {K' : Nat → Prop} (h : Loc w g k x K' wi) {a : Addr} (v : Value) (ha : a.block < w.heap.size ∨ w.heap.size + 4 ≤ a.block) : Loc w g k x K' (wi.setCell a v) :=
  { h with b0 := h.b0.far (by omega) v, b1 := h.b1.far (by omega) v, b2 := h.b2.far (by omega) v, b3 := h.b3.far (by omega) v }
theorem Loc.cells {w wi : World} {g k : Nat} {x : Call} {K' : Nat → Prop} (h : Loc w g k x K' wi) :
    wi.cell? ⟨w.heap.size, 0, none⟩ = some (.pointer (some ⟨g, 0, none⟩)) ∧ wi.cell? ⟨w.heap.size + 1, 0, none⟩ = some (.int .i64 ((k + 1 : Nat) : Int)) ∧
    wi.cell? ⟨w.heap.size + 1 + 1, 0, none⟩ = some (.string x.method) ∧ wi.cell? ⟨w.heap.size + 1 + 1, 1, none⟩ = some (.string x.key) ∧ wi.cell? ⟨w.heap.size + 1 + 1, 2, none⟩ = some (.int .i64 x.val) ∧ wi.cell? ⟨w.heap.size + 1 + 1, 3, none⟩ = some (.string x.text) := by
  refine ⟨?_, ?_, ?_, ?_, ?_, ?_⟩
  · rw [h.b0.cell]; rfl
  · rw [h.b1.cell]; rfl
  · rw [h.b2.cell]; rfl
  · rw [h.b2.cell]; rfl
  · rw [h.b2.cell]; rfl
  · rw [h.b2.cell]; rfl
def repA (r : Reply) : Array Value := #[.int .i64 r.code, .int .i64 r.val, .string r.text, .int .i64 r.want, .int .i64 r.had]
def IHt (k : Nat) : Prop := ∀ (K : Nat → Prop) (w : World) (g : Nat) (S2 : Value) (p : Part) (x : Call), PB K w g S2 p → CallFits x → k ≤ p.layers.length →
  Calls Tryz.prog 57 #[.pointer (some ⟨g, 0, none⟩), .int .i64 ((k : Nat) : Int), callV x] w (AfterB K w g S2 (thrD k p x))
theorem plain_fits {m : ByteArray} (h : m.size ≤ maxLen) : CallFits (plainCall m) := ⟨h, show noText.size ≤ maxLen by unfold maxLen; decide, show IntKind.i64.min ≤ (0 : Int) ∧ (0 : Int) ≤ IntKind.i64.max by decide, show noText.size < 4294967281 by decide⟩
theorem Loc.mine {w wi : World} {g k : Nat} {x : Call} {K' : Nat → Prop} (h : Loc w g k x K' wi) {a : Addr} (v : Value) (ha : K' a.block) : Loc w g k x K' (wi.setCell a v) :=
  { h with b0 := h.b0.far (fun e => h.n0 (by rw [e]; exact ha)) v, b1 := h.b1.far (fun e => h.n1 (by rw [e]; exact ha)) v, b2 := h.b2.far (fun e => h.n2 (by rw [e]; exact ha)) v, b3 := h.b3.far (fun e => h.n3 (by rw [e]; exact ha)) v }
theorem RBlk.rep {w : World} {b : Nat} {r : Reply} (h : RBlk w b 34 (repA r)) : w.cell? ⟨b, 0, none⟩ = some (.int .i64 r.code) ∧ w.cell? ⟨b, 1, none⟩ = some (.int .i64 r.val) ∧ w.cell? ⟨b, 2, none⟩ = some (.string r.text) ∧ w.cell? ⟨b, 3, none⟩ = some (.int .i64 r.want) ∧ w.cell? ⟨b, 4, none⟩ = some (.int .i64 r.had) ∧ ∀ i, w.frozen? ⟨b, i, none⟩ = false := by
  refine ⟨?_, ?_, ?_, ?_, ?_, h.frozen⟩ <;> (rw [h.cell]; rfl)
set_option maxHeartbeats 60000000 in
theorem t_goOn {k : Nat} (IH : IHt k) {K : Nat → Prop} {w : World} {g : Nat} {S2 : Value} {p : Part} (h : PB K w g S2 p) (hk : k ≤ p.layers.length) {m : ByteArray} (hm : m.size ≤ maxLen) {b0 b1 : Nat}
    (c0 : w.cell? ⟨b0, 0, none⟩ = some (.pointer (some ⟨g, 0, none⟩))) (c1 : w.cell? ⟨b1, 0, none⟩ = some (.int .i64 ((k + 1 : Nat) : Int))) :
    Calls Tryz.prog 96 #[.string m, .pointer (some ⟨b0, 0, none⟩), .pointer (some ⟨b1, 0, none⟩)] w (AfterB K w g S2 (thrD k p (plainCall m))) := by
  have H := Lib.hid h
  have hB : Below w.heap.size w (w.alloc (.cells zReply 34)) := by go_grown
  have d0 := cell_keep hB c0
  have d1 := cell_keep hB c1
  have HS := Lib.hid ((St.start h).below hB)
  have HR := Lib.hid (RBlk.new w 34 zReply)
  have hkr : ¬ K w.heap.size := fun hk => by have := (h.kb _ hk).2; omega
  have HC := Lib.hid (IH K _ g S2 p (plainCall m) HS.out.pb (plain_fits hm) hk)
  have hw : wrap64 (k : Int) = (k : Int) := by
    obtain ⟨a, cap, _, h1, h2⟩ := h.ly.lenS
    rw [prL_len] at h1
    unfold maxLen at h2
    unfold wrap64; omega
  unfold callV plainCall at HC
  unfold zReply at d0 d1
  clear h hB IH
  go_enter Tryz.func96, Tryz.ntmps96
  go_wp2_with fail
  refine HC.out.mono ?_
  rintro e w5 ⟨rfl, hp5, hf5⟩
  have A5 := Lib.hid (HS.out.call hp5 hf5)
  have HR5 := Lib.hid (HR.out.frk hf5 hkr)
  have hk5 : ¬ Gr K (w.alloc (.cells zReply 34)) w5 w.heap.size := by rintro (h | h); exact hkr h; have := HR.out.lt; omega
  clear hp5 hf5
  have hRE := HR5.out; obtain ⟨rz0, rz1, rz2, rz3, rz4, rzf⟩ := rzs (w := w5) (b := w.heap.size) hRE
  unfold replyV
  go_wp2
  obtain ⟨q1, q2⟩ := done_reply A5.out H.out HR5.out (by omega) hk5 (thrD k p (plainCall m)).2
  refine bodyPost_ret (results_blk rfl _ _ _ rfl q1 Tryz.underlying34 rfl (by kernel_rfl)) rfl q2
end Go.Proofs.YtbgcaneflfdddaaGreatDoor
/- What the walk of through needs: worlds of which one block turns; facts of the program's types. -/
namespace Go.Proofs.YtbgcaneflfdddaaGreatDoor
open Go.RowKit Go
variable [GC]
theorem PB.one {K : Nat → Prop} {w w' : World} {g b : Nat} {S2 : Value} {p : Part} (h : PB K w g S2 p) (ho : OneBlock w w' b) (hk : ¬ K b) (hn : NG ≤ b) : PB K w' g S2 p := by
  obtain ⟨S1, q1, q2, q3⟩ := h.bx
  refine ⟨⟨h.gi.1.keep fun i hi => ho.block i (by omega), by rw [ho.size]; exact h.gi.2⟩, fun i hi => by rw [ho.size]; exact h.kb i hi, h.kg, ⟨S1, (ho.block g (fun e => hk (e ▸ h.kg))).trans q1, ?_, q3⟩, ?_, h.ks, h.ct⟩
  · exact q2.keep (fun i hi => ho.block i fun e => hk (e ▸ (q2.out hi).1)) fun _ h => h
  · exact h.ly.keep (fun i hi => ho.block i fun e => hk (e ▸ (h.ly.out hi).1)) fun _ h => h
theorem FrK.one {K : Nat → Prop} {a b c : World} {g : Nat} (h : FrK K a b) (ho : OneBlock b c g) (hg : K g ∨ a.heap.size ≤ g) : FrK K a c :=
  ⟨ho.os.trans h.os, ho.tape.trans h.tape, ho.output.trans h.output, by rw [ho.size]; exact h.size, fun i hi hn => (ho.block i (fun e => by rcases hg with hg | hg; exact hn (e ▸ hg); omega)).trans (h.block i hi hn)⟩
theorem St.one {K K' : Nat → Prop} {w wi wj : World} {g b : Nat} {S2 : Value} {p : Part} (h : St K w g S2 K' p wi) (ho : OneBlock wi wj b) (hk : ¬ K' b) (hb : w.heap.size ≤ b) : St K w g S2 K' p wj :=
  ⟨h.pb.one ho hk (Nat.le_trans h.nb hb), h.nb, fun i hi => by rw [ho.size]; exact h.sub i hi, h.fr.one ho (.inr hb)⟩
theorem Loc.one {w wi wj : World} {g k b : Nat} {x : Call} {K' : Nat → Prop} (h : Loc w g k x K' wi) (ho : OneBlock wi wj b) (hb : w.heap.size + 4 ≤ b) : Loc w g k x K' wj :=
  { h with b0 := (ho.block _ (by omega)).trans h.b0, b1 := (ho.block _ (by omega)).trans h.b1, b2 := (ho.block _ (by omega)).trans h.b2, b3 := (ho.block _ (by omega)).trans h.b3 }
theorem rep_one (r : Reply) : ∀ u ∈ (repA r).toList, u.oneCell' = true := by
  intro u hu
  simp [repA] at hu
  rcases hu with rfl | rfl | rfl | rfl | rfl <;> rfl
def thrE (w : World) (b o k : Nat) (x : Call) : List (Nat × Value) :=
  [(3, .pointer (some ⟨w.heap.size, 0, none⟩)), (4, .pointer (some ⟨w.heap.size + 1, 0, none⟩)), (5, .pointer (some ⟨w.heap.size + 1 + 1, 0, none⟩)), (6, .pointer (some ⟨w.heap.size + 1 + 1 + 1, 0, none⟩)),
   (7, .pointer (some ⟨b, o + k * 2, none⟩)), (8, .func (.func 96) #[] #[.pointer (some ⟨w.heap.size, 0, none⟩), .pointer (some ⟨w.heap.size + 1, 0, none⟩)]), (9, .bool (isKeep x))]
theorem fo_p0 : fieldOff Tryz.prog 29 0 = some 0 := by kernel_rfl
theorem fo_p1 : fieldOff Tryz.prog 29 1 = some 5 := by kernel_rfl
theorem fo_c0 : fieldOff Tryz.prog 39 0 = some 0 := by kernel_rfl
theorem fo_c2 : fieldOff Tryz.prog 39 2 = some 2 := by kernel_rfl
theorem fo_l0 : fieldOff Tryz.prog 52 0 = some 0 := by kernel_rfl
theorem fo_l1 : fieldOff Tryz.prog 52 1 = some 1 := by kernel_rfl
theorem fo_r0 : fieldOff Tryz.prog 34 0 = some 0 := by kernel_rfl
theorem fo_r1 : fieldOff Tryz.prog 34 1 = some 1 := by kernel_rfl
theorem es_l : elemSize Tryz.prog 27 = some 2 := by kernel_rfl
theorem iz_r : (Tryz.prog.info? 34).bind (·.zero) = some (.agg zReply) := by kernel_rfl
theorem is_r : (Tryz.prog.info? 34).map (·.size) = some 5 := by kernel_rfl
theorem is_c : (Tryz.prog.info? 39).map (·.size) = some 4 := by kernel_rfl
theorem is_i : (Tryz.prog.info? 3).map (·.size) = some 1 := by kernel_rfl
theorem bl_1 (v : Int) : buildB Tryz.prog 34 [(1, .int .i64 v)] = some (repA (rep 0 v 0 0)) := by kernel_rfl
theorem bl_0 (v : Int) : buildB Tryz.prog 34 [(0, .int .i64 v)] = some (repA (rep v 0 0 0)) := by kernel_rfl
theorem ca_do : callable Tryz.prog 95 = true := by kernel_rfl
theorem ca_th : callable Tryz.prog 57 = true := by kernel_rfl
theorem ca_go : callable Tryz.prog 96 = true := by kernel_rfl
theorem ca_up : callable Tryz.prog 97 = true := by kernel_rfl
theorem CW.tail {n : Nat} {P : Program} {Q : Exit → Act → World → Prop} {E : List (Nat × Value)} {w : World} {id : Nat} {l : List Oper} (m : Nat) (hm : P.follows .mixedOrders = true) (hB : Region.lexTailB .any l.toArray m = true)
    (h : ∀ wd : World, wd.heap = w.heap → Below w.heap.size w wd → WS n P l.toArray wd (fun a' => wpList P l.toArray Q (l.drop m) a' wd) (l.take m) E) : CW n P (.region id l.toArray true) Q E w := fun a hE =>
  region_tail_gen m hm hB fun wd h1 h2 => h wd h1 h2 a hE
theorem WS.go {n : Nat} {P : Program} {Q : Exit → Act → World → Prop} {E : List (Nat × Value)} {ops : Array Oper} {wd : World} {rest : List Oper} (h : WL n P ops Q rest E wd) : WS n P ops wd (fun a' => wpList P ops Q rest a' wd) [] E := fun a hE => wpStill_nil (h a hE)
end Go.Proofs.YtbgcaneflfdddaaGreatDoor
/- Contract: a call of a part (CallPart), walked by hand over the box that it is done in. -/
namespace Go.Proofs.YtbgcaneflfdddaaGreatDoor
open Go.RowKit Go
variable [GC]
theorem PB.give {K : Nat → Prop} {w : World} {g B : Nat} {S1 S2 : Value} {p : Part} {M : Addr → Prop} (h1 : Row2 K w g S1 (prC p.core.cells)) (h2 : Row2 K w g S2 (prL p.layers)) (ha : ∀ b, OutB S1 b → ¬ OutB S2 b) (hks : p.core.kind.size ≤ maxLen) (hct : IntKind.i64.min ≤ p.core.count ∧ p.core.count ≤ IntKind.i64.max)
  (hK : ∀ b, K b → B ≤ b) (hM : ∀ q, M q → q.block < B) {r : D} {rv : Value} (hr : R w (fun _ => True) r rv) {v : Value} (hv : v = .tuple #[.agg #[.string p.core.kind, .bool p.core.on, .bool p.core.broken, S1, .int .i64 p.core.count, S2], rv]) :
  R w (fun q => M q ∨ RtM v [(3, 2), (5, 2)] q) (.tup [enc p, r]) v ∧ RtOk B w v [(3, 2), (5, 2)] := by
 subst hv
 have e3 : rtV (.tuple #[.agg #[.string p.core.kind, .bool p.core.on, .bool p.core.broken, S1, .int .i64 p.core.count, S2], rv]) (3, 2) = S1 := rfl
 have e5 : rtV (.tuple #[.agg #[.string p.core.kind, .bool p.core.on, .bool p.core.broken, S1, .int .i64 p.core.count, S2], rv]) (5, 2) = S2 := rfl
 have live : ∀ (S : Value) (l : List (ByteArray × Int)), Row2 K w g S l → LiveAt B w S 2 := by
  rintro S l ⟨a, cap, rfl, q1, q2, q3, q4, q5⟩ b o s len cap' e hc
  simp only [Value.slice.injEq] at e
  obtain ⟨rfl, rfl, rfl⟩ := e
  obtain ⟨z1, z2, z3, cells, T, z4, z5, _⟩ := q5 b o s rfl hc
  exact ⟨z1, hK _ z2, cells, T, z4, z5⟩
 have apart : Apart S1 S2 := fun b o s len cap b' o' s' len' cap' u1 c1 u2 c2 e => by
  subst e
  exact ha b ⟨o, s, len, cap, u1, c1⟩ ⟨o', s', len', cap', u2, c2⟩
 have rd : ∀ (S : Value) (l : List (ByteArray × Int)), Row2 K w g S l → (S = S1 ∨ S = S2) → R w (fun q => M q ∨ RtM (.tuple #[.agg #[.string p.core.kind, .bool p.core.on, .bool p.core.broken, S1, .int .i64 p.core.count, S2], rv]) [(3, 2), (5, 2)] q) (.sl (l.map rowP)) S := by
  intro S l hR hS
  refine hR.rd fun b o cap i e hk hi hq => ?_
  have hob : OutB S b := by
   obtain ⟨a', cap', e', z1, _⟩ := hR
   rw [e] at e'
   simp only [Value.slice.injEq] at e'
   exact ⟨o, none, _, cap, e, by have := e'.2.2; omega⟩
  rcases hq with hq | ⟨y, hy, b', o', s', len', cap', u1, u2, u3, u4⟩
  ·have := hM _ hq; have := hK _ hk; simp only at *; omega
  ·have hy : y = (3, 2) ∨ y = (5, 2) := by simpa using hy
   simp only at u2 u3 u4
   have hc' : 0 < cap' := by
    rcases hy with rfl | rfl <;> (simp only at u3 u4; omega)
   have same : rtV (.tuple #[.agg #[.string p.core.kind, .bool p.core.on, .bool p.core.broken, S1, .int .i64 p.core.count, S2], rv]) y = S → False := fun es => by
    rw [es, e] at u1
    simp only [Value.slice.injEq, Option.some.injEq, Addr.mk.injEq] at u1
    obtain ⟨⟨_, ho, _⟩, hl, _⟩ := u1
    rcases hy with rfl | rfl <;> (simp only at u3 u4; omega)
   have hb2 : OutB (rtV (.tuple #[.agg #[.string p.core.kind, .bool p.core.on, .bool p.core.broken, S1, .int .i64 p.core.count, S2], rv]) y) b := ⟨o', s', len', cap', by rw [u1, u2], hc'⟩
   rcases hy with rfl | rfl
   ·rcases hS with rfl | rfl
    ·exact same e3
    ·rw [e3] at hb2; exact ha b hb2 hob
   ·rcases hS with rfl | rfl
    ·rw [e5] at hb2; exact ha b hob hb2
    ·exact same e5
 refine ⟨⟨_, rfl, ?_⟩, fun x hx => ?_, fun i j x y hi hj hne => ?_⟩
 ·have c1 := rd S1 _ h1 (.inl rfl)
  have c2 := rd S2 _ h2 (.inr rfl)
  rw [prC_row] at c1
  rw [prL_row] at c2
  exact ⟨_, _, rfl, ⟨_, rfl, ⟨_, _, rfl, ⟨rfl, hks⟩, _, _, rfl, rfl, _, _, rfl, rfl, _, _, rfl, c1, _, _, rfl, ⟨rfl, hct⟩, _, _, rfl, c2, rfl⟩⟩, _, _, rfl, R.less hr (fun _ _ => trivial), rfl⟩
 ·have hx : x = (3, 2) ∨ x = (5, 2) := by simpa using hx
  rcases hx with rfl | rfl
  ·rw [e3]; exact live _ _ h1
  ·rw [e5]; exact live _ _ h2
 ·match i, j, hi, hj, hne with
  | 0, 0, _, _, h => exact absurd rfl h
  | 1, 1, _, _, h => exact absurd rfl h
  | 0, 1, hi, hj, _ => cases hi; cases hj; rw [e3, e5]; exact apart
  | 1, 0, hi, hj, _ =>
   cases hi; cases hj; rw [e3, e5]
   exact fun b o s len cap b' o' s' len' cap' u1 c1 u2 c2 e => apart b' o' s' len' cap' b o s len cap u2 c2 u1 c1 e.symm
  | 0, n + 2, _, hj, _ => simp at hj
  | 1, n + 2, _, hj, _ => simp at hj
  | n + 2, _, hi, _, _ => simp at hi
theorem rep_read {w : World} {M : Addr → Prop} {r : Reply} (h1 : IntKind.i64.min ≤ r.code ∧ r.code ≤ IntKind.i64.max) (h2 : IntKind.i64.min ≤ r.val ∧ r.val ≤ IntKind.i64.max) (h3 : r.text.size ≤ maxLen) (h4 : IntKind.i64.min ≤ r.want ∧ r.want ≤ IntKind.i64.max) (h5 : IntKind.i64.min ≤ r.had ∧ r.had ≤ IntKind.i64.max) : R w M (enc r) (replyV r) :=
 ⟨_, rfl, ⟨_, _, rfl, ⟨rfl, h1⟩, _, _, rfl, ⟨rfl, h2⟩, _, _, rfl, ⟨rfl, h3⟩, _, _, rfl, ⟨rfl, h4⟩, _, _, rfl, ⟨rfl, h5⟩, rfl⟩⟩
theorem results_blk2 {P : Program} {fn : Func} {p u : Tmp} {ty ty2 : TypeId} (h : fn.results = #[.cell p ty, .cell u ty2]) (tmps : Array Value) (w : World) {g g2 : Nat} {t t2 : TypeId} {cs cs2 : Array Value} (d d2 : TypeDesc)
  (hp : tmps.getD p undef = .pointer (some ⟨g, 0, none⟩)) (hg : RBlk w g t cs) (hu : P.underlying ty = some d) (hd : (match d with | .struct _ | .array _ _ => true | _ => false) = true) (hi : (P.info? ty).map (·.size) = some cs.size)
  (hp2 : tmps.getD u undef = .pointer (some ⟨g2, 0, none⟩)) (hg2 : RBlk w g2 t2 cs2) (hu2 : P.underlying ty2 = some d2) (hd2 : (match d2 with | .struct _ | .array _ _ => true | _ => false) = true) (hi2 : (P.info? ty2).map (·.size) = some cs2.size) :
  (results fn tmps).run P w = .ok (.tuple #[.agg cs, .agg cs2]) w := by
 have hp' : tmps[p]?.getD undef = .pointer (some ⟨g, 0, none⟩) := by simpa using hp
 have hp2' : tmps[u]?.getD undef = .pointer (some ⟨g2, 0, none⟩) := by simpa using hp2
 simp [results, h, hp', hp2', asAddr, run_loadVar_row w g t ty cs (0, 0) d hg hu hd hi, run_loadVar_row w g2 t2 ty2 cs2 (0, 0) d2 hg2 hu2 hd2 hi2, Sem.run_bind, Result.andThen]
theorem part_shape {w : World} {M : Addr → Prop} {p : Part} {v : Value} (h : R w M (enc p) v) : ∃ S1 S2, v = .agg #[.string p.core.kind, .bool p.core.on, .bool p.core.broken, S1, .int .i64 p.core.count, S2] ∧ R w M (encS p.core.cells) S1 ∧ R w M (encS p.layers) S2 ∧ p.core.kind.size ≤ maxLen ∧ (IntKind.i64.min ≤ p.core.count ∧ p.core.count ≤ IntKind.i64.max) := by
 obtain ⟨cs, rfl, v0, r0, e0, ⟨rfl, h0⟩, v1, r1, rfl, rfl, v2, r2, rfl, rfl, v3, r3, rfl, h3, v4, r4, rfl, ⟨rfl, h4⟩, v5, r5, rfl, h5, rfl⟩ := h
 have : cs = #[.string p.core.kind, .bool p.core.on, .bool p.core.broken, v3, .int .i64 p.core.count, v5] := by rw [← Array.toList_inj, e0]
 exact ⟨v3, v5, by rw [this], h3, h5, h0, h4⟩
theorem call_shape {w : World} {M : Addr → Prop} {x : Call} {v : Value} (h : R w M (enc x) v) : v = callV x ∧ x.method.size ≤ maxLen ∧ x.key.size ≤ maxLen ∧ (IntKind.i64.min ≤ x.val ∧ x.val ≤ IntKind.i64.max) := by
 obtain ⟨cs, rfl, v0, r0, e0, ⟨rfl, h0⟩, v1, r1, rfl, ⟨rfl, h1⟩, v2, r2, rfl, ⟨rfl, h2⟩, v3, r3, rfl, ⟨rfl, h3⟩, rfl⟩ := h
 have : cs = #[.string x.method, .string x.key, .int .i64 x.val, .string x.text] := by rw [← Array.toList_inj, e0]
 exact ⟨by rw [this]; rfl, h0, h1, h2⟩
def zPart : Array Value := #[.string ⟨#[]⟩, .bool false, .bool false, .slice none 0 0, .int .i64 0, .slice none 0 0]
def partA (p : Part) (S1 S2 : Value) : Array Value := #[.string p.core.kind, .bool p.core.on, .bool p.core.broken, S1, .int .i64 p.core.count, S2]
def smallR (r : Reply) : Prop := (0 ≤ r.code ∧ r.code ≤ 7) ∧ r.text.size ≤ 100 ∧ r.want = 0 ∧ r.had = 0
theorem rep_small {c v : Int} (h : 0 ≤ c ∧ c ≤ 7) : smallR (rep c v 0 0) := ⟨h, by show (⟨#[]⟩ : ByteArray).size ≤ 100; decide, rfl, rfl⟩
theorem does_small (p : Core) (x : Call) : smallR (doesD p x).2 := by
 unfold doesD keepD
 (repeat' split) <;> first
  | exact rep_small (by decide)
  | exact ⟨show (0 : Int) ≤ 0 ∧ (0 : Int) ≤ 7 by decide, by have := fmtC_size p.cells; simp only; omega, rfl, rfl⟩
theorem thr_small : ∀ (k : Nat) (p : Part) (x : Call), smallR (thrD k p x).2
 | 0, p, x => does_small p.core x
 | k + 1, p, x => by
  have ih := thr_small k
  rw [thrD]
  split
  ·exact rep_small (by decide)
  split
  ·exact ih _ _
  split
  ·split
   ·exact ih _ _
   ·exact ih _ _
  split
  ·exact rep_small (by decide)
  split
  ·split
   ·exact ih _ _
   split
   ·exact ih _ _
   ·exact rep_small (by decide)
  split
  ·exact ih _ _
  split
  ·have := ih p x
   unfold twoR
   simp only
   split
   ·exact this
   ·exact this
  ·exact ih _ _
/- The walk. -/
theorem NX.body2 {n : Nat} {P : Program} {E : List (Nat × Value)} {w : World} {fn : Func} {R : Ending → World → Prop} {p u : Tmp} {ty ty2 : TypeId} {g g2 : Nat} {t t2 : TypeId} {cs cs2 : Array Value} {d d2 : TypeDesc} (h : fn.results = #[.cell p ty, .cell u ty2]) (hp : lk E p = some (.pointer (some ⟨g, 0, none⟩))) (hp2 : lk E u = some (.pointer (some ⟨g2, 0, none⟩)))
  (hg : RBlk w g t cs) (hg2 : RBlk w g2 t2 cs2) (hu : P.underlying ty = some d) (hu2 : P.underlying ty2 = some d2) (hd : (match d with | .struct _ | .array _ _ => true | _ => false) = true) (hd2 : (match d2 with | .struct _ | .array _ _ => true | _ => false) = true)
  (hi : (P.info? ty).map (·.size) = some cs.size) (hi2 : (P.info? ty2).map (·.size) = some cs2.size) (hR : R (.returned (.tuple #[.agg cs, .agg cs2])) w) : NX n (bodyPost P fn R .ret) E w :=
 fun a hE => ⟨hE.df, _, results_blk2 h a.tmps w d d2 (hE.at' p _ hp) hg hu hd hi (hE.at' u _ hp2) hg2 hu2 hd2 hi2, hR⟩
theorem part_one (p : Part) {a1 a2 : Option Addr} {n1 c1 n2 c2 : Nat} : ∀ u ∈ (partA p (.slice a1 n1 c1) (.slice a2 n2 c2)).toList, u.oneCell' = true := by
 intro u hu
 simp [partA] at hu
 rcases hu with rfl | rfl | rfl | rfl | rfl | rfl <;> rfl
theorem faceOf_lt' (p : Part) : faceOf p < 64 := faceAt_lt p _
theorem iz_p : (Tryz.prog.info? 29).bind (·.zero) = some (.agg zPart) := by kernel_rfl
theorem is_p : (Tryz.prog.info? 29).map (·.size) = some 6 := by kernel_rfl
theorem bl_034 (a b c : Int) : buildB Tryz.prog 34 [(0, .int .i64 a), (3, .int .i64 b), (4, .int .i64 c)] = some (repA (rep a 0 b c)) := by kernel_rfl
theorem ca_cp : callable Tryz.prog 55 = true := by kernel_rfl
theorem ca_ip : callable Tryz.prog 20 = true := by kernel_rfl
theorem ca_ic : callable Tryz.prog 21 = true := by kernel_rfl
theorem ca_fo : callable Tryz.prog 25 = true := by kernel_rfl
theorem ca_wo : callable Tryz.prog 23 = true := by kernel_rfl
theorem ca_of : callable Tryz.prog 24 = true := by kernel_rfl
theorem PB.made {wa v5 w6 : World} {M : Addr → Prop} {p : Part} {S1 S2 : Value} (hG : Rdy wa M) (hb : Below wa.heap.size wa v5) (hr1 : R v5 (fun _ => False) (encS p.core.cells) S1) (hr2 : R v5 (fun _ => False) (encS p.layers) S2) (hl1 : LiveAt wa.heap.size v5 S1 2) (hl2 : LiveAt wa.heap.size v5 S2 2) (hap : Apart S1 S2)
  (hks : p.core.kind.size ≤ maxLen) (hct : IntKind.i64.min ≤ p.core.count ∧ p.core.count ≤ IntKind.i64.max) (hR : RBlk w6 v5.heap.size 29 (partA p S1 S2)) (hB : Below v5.heap.size v5 w6) (hz : v5.heap.size < w6.heap.size) :
  PB (fun b => wa.heap.size ≤ b ∧ b < w6.heap.size) w6 v5.heap.size S2 p ∧ Row2 (fun b => wa.heap.size ≤ b ∧ b < w6.heap.size) w6 v5.heap.size S1 (prC p.core.cells) ∧ (∀ b, OutB S1 b → ¬ OutB S2 b) := by
 have hr1' : R v5 (fun _ => False) (.sl ((prC p.core.cells).map rowP)) S1 := by rw [prC_row]; exact hr1
 have hr2' : R v5 (fun _ => False) (.sl ((prL p.layers).map rowP)) S2 := by rw [prL_row]; exact hr2
 have q1 := Row2.of (K := fun b => wa.heap.size ≤ b ∧ b < v5.heap.size) (g := v5.heap.size) hr1' hl1 (fun b h1 h2 => ⟨h1, h2⟩) (fun b h1 h2 => by omega)
 have q2 := Row2.of (K := fun b => wa.heap.size ≤ b ∧ b < v5.heap.size) (g := v5.heap.size) hr2' hl2 (fun b h1 h2 => ⟨h1, h2⟩) (fun b h1 h2 => by omega)
 have k1 : Row2 (fun b => wa.heap.size ≤ b ∧ b < w6.heap.size) w6 v5.heap.size S1 (prC p.core.cells) := q1.keep (fun b ho => hB.block b (q1.out ho).2.2) fun b h => ⟨h.1, by have := h.2; omega⟩
 have k2 : Row2 (fun b => wa.heap.size ≤ b ∧ b < w6.heap.size) w6 v5.heap.size S2 (prL p.layers) := q2.keep (fun b ho => hB.block b (q2.out ho).2.2) fun b h => ⟨h.1, by have := h.2; omega⟩
 have ha : ∀ b, OutB S1 b → ¬ OutB S2 b := fun b ⟨o, s, len, cap, e, hc⟩ ⟨o', s', len', cap', e', hc'⟩ => hap b o s len cap b o' s' len' cap' e hc e' hc' rfl
 have hb6 : Below wa.heap.size wa w6 := bt hb hB
 exact ⟨⟨⟨hG.2.1.keep fun k hk => hb6.block k (Nat.lt_of_lt_of_le hk hG.2.2), Nat.le_trans hG.2.2 hb6.size⟩, fun b h => ⟨Nat.le_trans hG.2.2 h.1, h.2⟩, ⟨hb.size, hz⟩, ⟨S1, hR, k1, ha⟩, k2, hks, hct⟩, k1, ha⟩
theorem call_end {g0 : Nat} {w wi wj wk : World} {M : Addr → Prop} {K : Nat → Prop} {g : Nat} {S1 S2 : Value} {p : Part} {r : Reply} {b2 b3 : Nat} (hM : ∀ q, M q → q.block < w.heap.size) (hB : Below w.heap.size w wi) (h1 : Row2 K wi g S1 (prC p.core.cells)) (h2 : Row2 K wi g S2 (prL p.layers)) (ha : ∀ b, OutB S1 b → ¬ OutB S2 b)
  (hks : p.core.kind.size ≤ maxLen) (hct : IntKind.i64.min ≤ p.core.count ∧ p.core.count ≤ IntKind.i64.max) (hK : ∀ b, K b → w.heap.size ≤ b) (o2 : OneBlock wi wj b2) (o3 : OneBlock wj wk b3) (n2 : ¬ K b2) (n3 : ¬ K b3) (hb2 : w.heap.size ≤ b2) (hb3 : w.heap.size ≤ b3) (hr : R wk (fun _ => True) (enc r) (replyV r)) :
  ∃ v, Ending.returned (.tuple #[.agg (partA p S1 S2), .agg (repA r)]) = .returned v ∧ R wk (fun q => M q ∨ RtM v [(3, 2), (5, 2)] q) (.tup [enc p, enc r]) v ∧ Fr w.heap.size (Option.map (fun _ => g0) (none : Option (List D))) w wk ∧ RtOk w.heap.size wk v [(3, 2), (5, 2)] ∧
   ((none : Option (List D)).isSome = true → ∃ us T, wk.heap[g0]? = some (.cells us.toArray T (0, 0)) ∧ Rs wk (fun q => M q ∨ RtM v [(3, 2), (5, 2)] q) [] us) := by
 have keep : ∀ {S : Value} {l : List (ByteArray × Int)}, Row2 K wi g S l → Row2 K wk g S l := fun {S l} h => h.keep (fun b ho => by
  have hk := (h.out ho).1
  exact (o3.block b (fun e => n3 (e ▸ hk))).trans (o2.block b (fun e => n2 (e ▸ hk)))) fun _ h => h
 obtain ⟨q1, q2⟩ := PB.give (B := w.heap.size) (M := M) (keep h1) (keep h2) ha hks hct hK hM hr rfl
 have hbk : Below w.heap.size w wk := ⟨o3.os.trans (o2.os.trans hB.os), o3.tape.trans (o2.tape.trans hB.tape), o3.output.trans (o2.output.trans hB.output), by rw [o3.size, o2.size]; exact hB.size, fun i hi => (o3.block i (by omega)).trans ((o2.block i (by omega)).trans (hB.block i hi))⟩
 exact ⟨_, rfl, q1, Fr.of_below hbk (Nat.le_refl _), q2, fun h => by cases h⟩
set_option maxHeartbeats 4000000 in
theorem t_CallPart (hTH : ∀ k, IHt k) (p : Part) (x : Call) (hc : p.core.cells.length ≤ 4294967296) (hl : p.layers.length ≤ 4294967296) (hx : x.text.size < 4294967281) : FunR Tryz.prog 17 none [enc p, enc x] (.tup [enc (callD p x).1, enc (callD p x).2]) [] [(3, 2), (5, 2)] := by
 refine ⟨by kernel_rfl, fun w M g0 vs hM hr _ => ?_⟩
 obtain ⟨vp, q, rfl, hp, vx, q', rfl, hxr, rfl⟩ := hr
 obtain ⟨hvx, hxm, hxk, hxv⟩ := call_shape hxr
 subst hvx
 have hfits : CallFits x := ⟨hxm, hxk, hxv, hx⟩
 obtain ⟨S1, S2, hvp, -, -, hks, hct⟩ := part_shape hp
 have HW := show Below w.heap.size w ((((w.alloc (.cells (partA p S1 S2) 29)).alloc (.cells #[.string x.method, .string x.key, .int .i64 x.val, .string x.text] 39)).alloc (.cells zPart 29)).alloc (.cells zReply 34)) by go_grown
 have hsz : ((((w.alloc (.cells (partA p S1 S2) 29)).alloc (.cells #[.string x.method, .string x.key, .int .i64 x.val, .string x.text] 39)).alloc (.cells zPart 29)).alloc (.cells zReply 34)).heap.size = w.heap.size + 1 + 1 + 1 + 1 := by simp only [World.size_alloc]
 have p0 := show RBlk ((((w.alloc (.cells (partA p S1 S2) 29)).alloc (.cells #[.string x.method, .string x.key, .int .i64 x.val, .string x.text] 39)).alloc (.cells zPart 29)).alloc (.cells zReply 34)) w.heap.size 29 (partA p S1 S2) from (((RBlk.new w _ _).alloc _).alloc _).alloc _
 have p1 := show RBlk ((((w.alloc (.cells (partA p S1 S2) 29)).alloc (.cells #[.string x.method, .string x.key, .int .i64 x.val, .string x.text] 39)).alloc (.cells zPart 29)).alloc (.cells zReply 34)) (w.heap.size + 1) 39 #[.string x.method, .string x.key, .int .i64 x.val, .string x.text] by
  have := (RBlk.new (w.alloc (.cells (partA p S1 S2) 29)) 39 #[.string x.method, .string x.key, .int .i64 x.val, .string x.text]); simp only [World.size_alloc] at this; exact (this.alloc _).alloc _
 have p2 := show RBlk ((((w.alloc (.cells (partA p S1 S2) 29)).alloc (.cells #[.string x.method, .string x.key, .int .i64 x.val, .string x.text] 39)).alloc (.cells zPart 29)).alloc (.cells zReply 34)) (w.heap.size + 1 + 1) 29 zPart by
  have := (RBlk.new ((w.alloc (.cells (partA p S1 S2) 29)).alloc (.cells #[.string x.method, .string x.key, .int .i64 x.val, .string x.text] 39)) 29 zPart); simp only [World.size_alloc] at this; exact this.alloc _
 have p3 := show RBlk ((((w.alloc (.cells (partA p S1 S2) 29)).alloc (.cells #[.string x.method, .string x.key, .int .i64 x.val, .string x.text] 39)).alloc (.cells zPart 29)).alloc (.cells zReply 34)) (w.heap.size + 1 + 1 + 1) 34 zReply by
  have := (RBlk.new (((w.alloc (.cells (partA p S1 S2) 29)).alloc (.cells #[.string x.method, .string x.key, .int .i64 x.val, .string x.text] 39)).alloc (.cells zPart 29)) 34 zReply); simp only [World.size_alloc] at this; exact this
 have hpa := R.keep (Keeps.below (M' := M) HW fun _ _ h => h) _ _ hp
 have hxa := R.keep (Keeps.below (M' := M) HW fun _ _ h => h) _ _ hxr
 have hGa := hM.below HW (M' := M) fun q hq => Nat.lt_of_lt_of_le (hM.1 q hq) HW.size
 subst hvp
 refine calls_CW (E := [(0, .agg (partA p S1 S2)), (1, callV x)]) Tryz.func17 rfl Tryz.ntmps17 (by simp) (by simp [partA]) ?_
 refine CW.seq (CW.region ?_)
 refine WL.vv rfl rfl (r_box rfl rfl) (by decide) ?_
 refine WL.vv rfl rfl (r_box rfl rfl) (by decide) ?_
 refine WL.vv rfl rfl (r_alloc rfl iz_p) (by decide) ?_
 refine WL.vv rfl rfl (r_alloc rfl iz_r) (by decide) ?_
 refine WL.nil (NX.next ?_)
 show CW _ Tryz.prog _ _ _ ((((w.alloc (.cells (partA p S1 S2) 29)).alloc (.cells #[.string x.method, .string x.key, .int .i64 x.val, .string x.text] 39)).alloc (.cells zPart 29)).alloc (.cells zReply 34))
 refine CW.sub (E' := [(2, .pointer (some ⟨w.heap.size, 0, none⟩)), (3, .pointer (some ⟨w.heap.size + 1, 0, none⟩)), (4, .pointer (some ⟨w.heap.size + 1 + 1, 0, none⟩)), (5, .pointer (some ⟨w.heap.size + 1 + 1 + 1, 0, none⟩))]) ⟨rfl, by simp only [World.size_alloc]; rfl, by simp only [World.size_alloc]; rfl, by simp only [World.size_alloc]; rfl, trivial⟩ ?_
 generalize ((((w.alloc (.cells (partA p S1 S2) 29)).alloc (.cells #[.string x.method, .string x.key, .int .i64 x.val, .string x.text] 39)).alloc (.cells zPart 29)).alloc (.cells zReply 34)) = wa at HW hsz p0 p1 p2 p3 hpa hxa hGa ⊢
 refine CW.seq (CW.region ?_)
 refine WL.vv rfl rfl (r_loadS rfl rfl Tryz.underlying29 rfl p0 is_p) (by decide) ?_
 refine WL.c rfl rfl (r_call (args := #[.agg (partA p S1 S2)]) ca_cp rfl rfl rfl) (by decide) ((c_impl_copyPart p hc hl).2 wa M 0 [.agg (partA p S1 S2)] hGa ⟨_, [], rfl, hpa, rfl⟩ (fun cs h => by cases h)) ?_
 rintro _ v5 ⟨v, rfl, hv, hf5, hrt, -⟩
 obtain ⟨T1, T2, rfl, hT1, hT2, -, -⟩ := part_shape hv
 refine ⟨_, rfl, ?_⟩
 have hb5 := hf5.to_below
 obtain ⟨⟨a1, n1, c1, e1⟩, ⟨a2, m2, c2, e2⟩⟩ : (∃ a n c, T1 = .slice a n c) ∧ (∃ a c m, T2 = .slice a c m) := by
  obtain ⟨a, n, c, e, _⟩ := hT1
  obtain ⟨a', n', c', e', _⟩ := hT2
  exact ⟨⟨a, n, c, e⟩, ⟨a', n', c', e'⟩⟩
 have hn2 : m2 = p.layers.length := by
  obtain ⟨a', n', c', e', h, _⟩ := hT2
  rw [e2] at e'
  simp only [Value.slice.injEq] at e'
  rw [e'.2.1, h]; simp [encS]
 have hone := part_one p (a1 := a1) (n1 := n1) (c1 := c1) (a2 := a2) (n2 := m2) (c2 := c2)
 rw [← e1, ← e2] at hone
 subst hn2
 refine WL.vv rfl rfl (r_alloc rfl iz_p) (by decide) ?_
 refine WL.st rfl rfl rfl rfl (cs := partA p T1 T2) rfl (show RBlk (v5.alloc (.cells zPart 29)) v5.heap.size 29 zPart from RBlk.new v5 _ _) rfl hone is_p fun w6 R6 O6 => ?_
 have hB6 : Below v5.heap.size v5 w6 := below_alloc_one O6
 have hz6 : v5.heap.size < w6.heap.size := R6.lt
 have hf : ∀ (S : Value) (d : D), R v5 (fun q => M q ∨ RtM (.agg (partA p T1 T2)) [(3, 2), (5, 2)] q) d S → R v5 (fun _ => False) d S := fun S d h => R.less h fun _ h => h.elim
 obtain ⟨H6, k1, ha⟩ := PB.made hGa hb5 (hf _ _ hT1) (hf _ _ hT2) (hrt.1 (3, 2) (by simp)) (hrt.1 (5, 2) (by simp)) (hrt.2 0 1 (3, 2) (5, 2) rfl rfl (by simp)) hks hct R6 hB6 hz6
 have hb6 : Below wa.heap.size wa w6 := bt hb5 hB6
 replace p0 := p0.below hb6 p0.lt
 replace p1 := p1.below hb6 p1.lt
 replace p2 := p2.below hb6 p2.lt
 replace p3 := p3.below hb6 p3.lt
 have hpb := R.keep (Keeps.below (M' := M) hb6 fun _ _ h => h) _ _ hpa
 have hxb := R.keep (Keeps.below (M' := M) hb6 fun _ _ h => h) _ _ hxa
 have hGb := hGa.below hb6 (M' := M) fun q hq => Nat.lt_of_lt_of_le (hGa.1 q hq) hb6.size
 have hBw : Below w.heap.size w w6 := bt HW hb6
 refine WL.nil (NX.next ?_)
 generalize v5.heap.size = g at *
 refine CW.sub (E' := [(2, .pointer (some ⟨w.heap.size, 0, none⟩)), (3, .pointer (some ⟨w.heap.size + 1, 0, none⟩)), (4, .pointer (some ⟨w.heap.size + 1 + 1, 0, none⟩)), (5, .pointer (some ⟨w.heap.size + 1 + 1 + 1, 0, none⟩)), (6, .pointer (some ⟨g, 0, none⟩))]) ⟨rfl, rfl, rfl, rfl, rfl, trivial⟩ ?_
 have hK : ∀ b, (wa.heap.size ≤ b ∧ b < w6.heap.size) → w.heap.size ≤ b := fun b h => by have := HW.size; omega
 have n2 : ¬ (wa.heap.size ≤ w.heap.size + 1 + 1 ∧ w.heap.size + 1 + 1 < w6.heap.size) := by omega
 have n3 : ¬ (wa.heap.size ≤ w.heap.size + 1 + 1 + 1 ∧ w.heap.size + 1 + 1 + 1 < w6.heap.size) := by omega
 clear hB6 hz6 hf hT1 hT2 hv hrt hf5 hb5 O6 hpa hxa hp hxr
 refine CW.seq (CW.seq (CW.region ?_))
 refine WL.vv rfl rfl (r_loadS rfl rfl Tryz.underlying29 rfl p0 is_p) (by decide) ?_
 refine WL.c rfl rfl (r_call (args := #[.agg (partA p S1 S2)]) ca_ip rfl rfl rfl) (by decide) ((c_impl_IsPart p).calls (M := M) hGb ⟨_, [], rfl, hpb, rfl⟩) ?_
 rintro _ w7 ⟨v, rfl, hv, hb7⟩
 obtain ⟨rfl, hvb⟩ : v = .bool (partB p) ∧ True := ⟨hv, trivial⟩
 refine ⟨_, rfl, ?_⟩
 replace p0 := p0.below hb7 p0.lt
 replace p1 := p1.below hb7 p1.lt
 replace p2 := p2.below hb7 p2.lt
 replace p3 := p3.below hb7 p3.lt
 replace R6 := R6.below hb7 R6.lt
 replace hpb := R.keep (Keeps.below (M' := M) hb7 fun _ _ h => h) _ _ hpb
 replace hxb := R.keep (Keeps.below (M' := M) hb7 fun _ _ h => h) _ _ hxb
 replace hGb := hGb.below hb7 (M' := M) fun q hq => Nat.lt_of_lt_of_le (hGb.1 q hq) hb7.size
 replace hBw := bt hBw hb7
 replace k1 := k1.keep (fun b ho => hb7.block b (k1.out ho).2.2) fun _ h => h
 replace H6 := H6.below hb7
 clear hv hvb
 refine WL.vv rfl rfl (r_not rfl rfl) (by decide) ?_
 refine WL.vv rfl rfl (r_move rfl rfl) (by decide) ?_
 cases hpp : partB p with
 | false =>
  refine WL.no (b := true) rfl rfl rfl rfl (by decide) ?_
  refine WL.no (b := true) rfl rfl rfl rfl (by decide) ?_
  refine WL.no (b := true) rfl rfl rfl rfl (by decide) ?_
  refine WL.vv rfl rfl (r_pickT rfl rfl rfl) (by decide) ?_
  refine WL.nil (NX.next (CW.yes rfl ?_))
  refine CW.seq (CW.region ?_)
  refine WL.vv rfl rfl (r_loadS rfl rfl Tryz.underlying29 rfl R6 is_p) (by decide) ?_
  refine WL.vv rfl rfl (r_build (vs := [(0, .int .i64 7)]) rfl rfl (bl_0 7)) (by decide) ?_
  refine WL.st rfl rfl rfl rfl rfl p2 rfl hone is_p fun wj Rj Oj => ?_
  refine WL.st rfl rfl rfl rfl rfl (show RBlk wj (w.heap.size + 1 + 1 + 1) 34 zReply from (Oj.block _ (by omega)).trans p3) rfl (rep_one _) is_r fun wk Rk Ok => ?_
  refine WL.nil (NX.next (CW.ret ?_))
  have e : callD p x = (p, rep 7 0 0 0) := by unfold callD; rw [if_pos (.inl hpp)]
  rw [e]
  exact NX.ret (NX.body2 rfl rfl rfl (show RBlk wk (w.heap.size + 1 + 1) 29 (partA p T1 T2) from (Ok.block _ (by omega)).trans Rj) Rk Tryz.underlying29 Tryz.underlying34 rfl rfl is_p is_r (call_end (fun q hq => hM.1 q hq) hBw k1 H6.ly ha hks hct hK Oj Ok n2 n3 (by omega) (by omega) (rep_read (r := rep 7 0 0 0) (show IntKind.i64.min ≤ (7 : Int) ∧ (7 : Int) ≤ IntKind.i64.max by decide) (show IntKind.i64.min ≤ (0 : Int) ∧ (0 : Int) ≤ IntKind.i64.max by decide) (show (⟨#[]⟩ : ByteArray).size ≤ maxLen by unfold maxLen; decide) (show IntKind.i64.min ≤ (0 : Int) ∧ (0 : Int) ≤ IntKind.i64.max by decide) (show IntKind.i64.min ≤ (0 : Int) ∧ (0 : Int) ≤ IntKind.i64.max by decide))))
 | true =>
  refine WL.vg (b := false) rfl rfl rfl rfl (r_loadS rfl rfl Tryz.underlying39 rfl p1 is_c) (by decide) ?_
  refine WL.cg (b := false) rfl rfl rfl rfl (r_call (args := #[callV x]) ca_ic rfl rfl rfl) (by decide) ((c_impl_IsCall x).calls (M := M) hGb ⟨_, [], rfl, hxb, rfl⟩) ?_
  rintro _ w8 ⟨v, rfl, hv, hb8⟩
  obtain ⟨rfl, hvb⟩ : v = .bool (callB x) ∧ True := ⟨hv, trivial⟩
  refine ⟨_, rfl, ?_⟩
  replace p0 := p0.below hb8 p0.lt
  replace p1 := p1.below hb8 p1.lt
  replace p2 := p2.below hb8 p2.lt
  replace p3 := p3.below hb8 p3.lt
  replace R6 := R6.below hb8 R6.lt
  replace hpb := R.keep (Keeps.below (M' := M) hb8 fun _ _ h => h) _ _ hpb
  replace hxb := R.keep (Keeps.below (M' := M) hb8 fun _ _ h => h) _ _ hxb
  replace hGb := hGb.below hb8 (M' := M) fun q hq => Nat.lt_of_lt_of_le (hGb.1 q hq) hb8.size
  replace hBw := bt hBw hb8
  replace k1 := k1.keep (fun b ho => hb8.block b (k1.out ho).2.2) fun _ h => h
  replace H6 := H6.below hb8
  clear hv hvb
  refine WL.vg (b := false) rfl rfl rfl rfl (r_not rfl rfl) (by decide) ?_
  refine WL.vv rfl rfl (r_pickF rfl rfl rfl) (by decide) ?_
  cases hcc : callB x with
  | false =>
   refine WL.nil (NX.next (CW.yes rfl ?_))
   refine CW.seq (CW.region ?_)
   refine WL.vv rfl rfl (r_loadS rfl rfl Tryz.underlying29 rfl R6 is_p) (by decide) ?_
   refine WL.vv rfl rfl (r_build (vs := [(0, .int .i64 7)]) rfl rfl (bl_0 7)) (by decide) ?_
   refine WL.st rfl rfl rfl rfl rfl p2 rfl hone is_p fun wj Rj Oj => ?_
   refine WL.st rfl rfl rfl rfl rfl (show RBlk wj (w.heap.size + 1 + 1 + 1) 34 zReply from (Oj.block _ (by omega)).trans p3) rfl (rep_one _) is_r fun wk Rk Ok => ?_
   refine WL.nil (NX.next (CW.ret ?_))
   have e : callD p x = (p, rep 7 0 0 0) := by unfold callD; rw [if_pos (.inr hcc)]
   rw [e]
   exact NX.ret (NX.body2 rfl rfl rfl (show RBlk wk (w.heap.size + 1 + 1) 29 (partA p T1 T2) from (Ok.block _ (by omega)).trans Rj) Rk Tryz.underlying29 Tryz.underlying34 rfl rfl is_p is_r (call_end (fun q hq => hM.1 q hq) hBw k1 H6.ly ha hks hct hK Oj Ok n2 n3 (by omega) (by omega) (rep_read (r := rep 7 0 0 0) (show IntKind.i64.min ≤ (7 : Int) ∧ (7 : Int) ≤ IntKind.i64.max by decide) (show IntKind.i64.min ≤ (0 : Int) ∧ (0 : Int) ≤ IntKind.i64.max by decide) (show (⟨#[]⟩ : ByteArray).size ≤ maxLen by unfold maxLen; decide) (show IntKind.i64.min ≤ (0 : Int) ∧ (0 : Int) ≤ IntKind.i64.max by decide) (show IntKind.i64.min ≤ (0 : Int) ∧ (0 : Int) ≤ IntKind.i64.max by decide))))
  | true =>
   refine WL.nil (NX.next (CW.no rfl (CW.skip (NX.next ?_))))
   refine CW.seq (CW.region ?_)
   refine WL.vv rfl rfl (r_loadS rfl rfl Tryz.underlying29 rfl p0 is_p) (by decide) ?_
   refine WL.c rfl rfl (r_call (args := #[.agg (partA p S1 S2)]) ca_fo rfl rfl rfl) (by decide) ((c_impl_FaceOf p).calls (M := M) hGb ⟨_, [], rfl, hpb, rfl⟩) ?_
   rintro _ w9 ⟨v, rfl, hv, hb9⟩
   obtain ⟨rfl, hvb⟩ : v = .int .i64 (faceOf p) ∧ True := ⟨hv.1, trivial⟩
   refine ⟨_, rfl, ?_⟩
   replace p0 := p0.below hb9 p0.lt
   replace p1 := p1.below hb9 p1.lt
   replace p2 := p2.below hb9 p2.lt
   replace p3 := p3.below hb9 p3.lt
   replace R6 := R6.below hb9 R6.lt
   replace hpb := R.keep (Keeps.below (M' := M) hb9 fun _ _ h => h) _ _ hpb
   replace hxb := R.keep (Keeps.below (M' := M) hb9 fun _ _ h => h) _ _ hxb
   replace hGb := hGb.below hb9 (M' := M) fun q hq => Nat.lt_of_lt_of_le (hGb.1 q hq) hb9.size
   replace hBw := bt hBw hb9
   replace k1 := k1.keep (fun b ho => hb9.block b (k1.out ho).2.2) fun _ h => h
   replace H6 := H6.below hb9
   clear hv hvb
   refine WL.vv rfl rfl (r_assign rfl rfl) (by decide) ?_
   refine WL.nil (NX.next ?_)
   refine CW.seq (CW.seq (CW.region ?_))
   refine WL.vv rfl rfl (r_field rfl rfl fo_c0) (by decide) ?_
   refine WL.vv rfl rfl (r_load rfl rfl Tryz.underlying9 rfl (p1.cell 0)) (by decide) ?_
   have hwt : IntKind.i64.min ≤ wantZ x.method ∧ wantZ x.method ≤ IntKind.i64.max := by
    obtain ⟨j, ew, _⟩ := meth_fin (callB_ab hcc)
    rw [ew]
    have : ∀ j : Fin 6, IntKind.i64.min ≤ ((2 ^ j.val : Nat) : Int) ∧ ((2 ^ j.val : Nat) : Int) ≤ IntKind.i64.max := by decide
    exact this j
   refine WL.c rfl rfl (r_call (args := #[.string x.method]) ca_wo rfl rfl rfl) (by decide) ((c_impl_WantOf x.method).calls (M := M) hGb ⟨_, [], rfl, ⟨rfl, hxm⟩, rfl⟩) ?_
   rintro _ w10 ⟨v, rfl, hv, hb10⟩
   obtain ⟨rfl, hvb⟩ : v = .int .i64 (wantZ x.method) ∧ True := ⟨hv.1, trivial⟩
   refine ⟨_, rfl, ?_⟩
   replace p0 := p0.below hb10 p0.lt
   replace p1 := p1.below hb10 p1.lt
   replace p2 := p2.below hb10 p2.lt
   replace p3 := p3.below hb10 p3.lt
   replace R6 := R6.below hb10 R6.lt
   replace hpb := R.keep (Keeps.below (M' := M) hb10 fun _ _ h => h) _ _ hpb
   replace hxb := R.keep (Keeps.below (M' := M) hb10 fun _ _ h => h) _ _ hxb
   replace hGb := hGb.below hb10 (M' := M) fun q hq => Nat.lt_of_lt_of_le (hGb.1 q hq) hb10.size
   replace hBw := bt hBw hb10
   replace k1 := k1.keep (fun b ho => hb10.block b (k1.out ho).2.2) fun _ h => h
   replace H6 := H6.below hb10
   clear hv hvb
   refine WL.vv rfl rfl (r_assign rfl rfl) (by decide) ?_
   refine WL.nil (NX.next ?_)
   refine CW.seq (CW.region ?_)
   refine WL.vv rfl rfl (r_move rfl rfl) (by decide) ?_
   refine WL.vv rfl rfl (r_move rfl rfl) (by decide) ?_
   have hfl : IntKind.i64.min ≤ ((faceOf p : Nat) : Int) ∧ ((faceOf p : Nat) : Int) ≤ IntKind.i64.max := by
    have := faceOf_lt' p
    have e1 : IntKind.i64.min = -9223372036854775808 ∧ IntKind.i64.max = 9223372036854775807 := by decide
    rw [e1.1, e1.2]; omega
   refine WL.c rfl rfl (r_call (args := #[.int .i64 (faceOf p), .int .i64 (wantZ x.method)]) ca_of rfl rfl rfl) (by decide) ((c_impl_Offers (faceOf p) (wantZ x.method)).calls (M := M) hGb ⟨_, _, rfl, ⟨rfl, hfl⟩, _, [], rfl, ⟨rfl, hwt⟩, rfl⟩) ?_
   rintro _ w11 ⟨v, rfl, hv, hb11⟩
   obtain ⟨rfl, hvb⟩ : v = .bool (offersB (faceOf p) (wantZ x.method)) ∧ True := ⟨hv, trivial⟩
   refine ⟨_, rfl, ?_⟩
   replace p0 := p0.below hb11 p0.lt
   replace p1 := p1.below hb11 p1.lt
   replace p2 := p2.below hb11 p2.lt
   replace p3 := p3.below hb11 p3.lt
   replace R6 := R6.below hb11 R6.lt
   replace hpb := R.keep (Keeps.below (M' := M) hb11 fun _ _ h => h) _ _ hpb
   replace hxb := R.keep (Keeps.below (M' := M) hb11 fun _ _ h => h) _ _ hxb
   replace hGb := hGb.below hb11 (M' := M) fun q hq => Nat.lt_of_lt_of_le (hGb.1 q hq) hb11.size
   replace hBw := bt hBw hb11
   replace k1 := k1.keep (fun b ho => hb11.block b (k1.out ho).2.2) fun _ h => h
   replace H6 := H6.below hb11
   clear hv hvb
   refine WL.vv rfl rfl (r_not rfl rfl) (by decide) ?_
   cases hoo : offersB (faceOf p) (wantZ x.method) with
   | false =>
    refine WL.nil (NX.next (CW.yes rfl ?_))
    refine CW.seq (CW.region ?_)
    refine WL.vv rfl rfl (r_loadS rfl rfl Tryz.underlying29 rfl R6 is_p) (by decide) ?_
    refine WL.vv rfl rfl (r_move rfl rfl) (by decide) ?_
    refine WL.vv rfl rfl (r_move rfl rfl) (by decide) ?_
    refine WL.vv rfl rfl (r_build (vs := [(0, .int .i64 1), (3, .int .i64 (wantZ x.method)), (4, .int .i64 (faceOf p))]) rfl rfl (bl_034 1 _ _)) (by decide) ?_
    refine WL.st rfl rfl rfl rfl rfl p2 rfl hone is_p fun wj Rj Oj => ?_
    refine WL.st rfl rfl rfl rfl rfl (show RBlk wj (w.heap.size + 1 + 1 + 1) 34 zReply from (Oj.block _ (by omega)).trans p3) rfl (rep_one _) is_r fun wk Rk Ok => ?_
    refine WL.nil (NX.next (CW.ret ?_))
    have e : callD p x = (p, rep 1 0 (wantZ x.method) (faceOf p)) := by unfold callD; rw [if_neg (by simp [hpp, hcc]), if_pos hoo]
    rw [e]
    exact NX.ret (NX.body2 rfl rfl rfl (show RBlk wk (w.heap.size + 1 + 1) 29 (partA p T1 T2) from (Ok.block _ (by omega)).trans Rj) Rk Tryz.underlying29 Tryz.underlying34 rfl rfl is_p is_r (call_end (fun q hq => hM.1 q hq) hBw k1 H6.ly ha hks hct hK Oj Ok n2 n3 (by omega) (by omega) (rep_read (r := rep 1 0 (wantZ x.method) (faceOf p)) (show IntKind.i64.min ≤ (1 : Int) ∧ (1 : Int) ≤ IntKind.i64.max by decide) (show IntKind.i64.min ≤ (0 : Int) ∧ (0 : Int) ≤ IntKind.i64.max by decide) (show (⟨#[]⟩ : ByteArray).size ≤ maxLen by unfold maxLen; decide) hwt hfl)))
   | true =>
    refine WL.nil (NX.next (CW.no rfl (CW.skip (NX.next ?_))))
    refine CW.seq (CW.region ?_)
    refine WL.vv rfl rfl (r_field rfl rfl fo_p1) (by decide) ?_
    refine WL.vv rfl rfl (r_load rfl rfl Tryz.underlying27 rfl (v := .slice a2 p.layers.length c2) (by rw [← e2]; exact R6.cell 5)) (by decide) ?_
    refine WL.vv rfl rfl (r_len rfl rfl rfl rfl Tryz.underlying27 rfl) (by decide) ?_
    refine WL.vv rfl rfl (r_loadS rfl rfl Tryz.underlying39 rfl p1 is_c) (by decide) ?_
    refine WL.c rfl rfl (r_call (args := #[.pointer (some ⟨g, 0, none⟩), .int .i64 ((p.layers.length : Nat) : Int), callV x]) ca_th rfl rfl rfl) (by decide) (hTH p.layers.length _ _ _ _ p x H6 hfits (Nat.le_refl _)) ?_
    rintro _ v7 ⟨rfl, hp7, hf7⟩
    refine ⟨_, rfl, ?_⟩
    have q2 := p2.frk hf7 n2
    have q3 := p3.frk hf7 n3
    have hB7 : Below w.heap.size w v7 := ⟨hf7.os.trans hBw.os, hf7.tape.trans hBw.tape, hf7.output.trans hBw.output, Nat.le_trans hBw.size hf7.size, fun i hi => (hf7.block i (Nat.lt_of_lt_of_le hi hBw.size) (fun hk => by have := hK i hk; omega)).trans (hBw.block i hi)⟩
    refine WL.vv rfl rfl (r_alloc rfl iz_r) (by decide) ?_
    refine WL.st rfl rfl rfl rfl rfl (show RBlk (v7.alloc (.cells zReply 34)) v7.heap.size 34 zReply from RBlk.new v7 _ _) rfl (rep_one _) is_r fun w8 R8 O8 => ?_
    have B8 : Below v7.heap.size v7 w8 := below_alloc_one O8
    have H8 := hp7.below B8
    replace q2 := q2.below B8 q2.lt
    replace q3 := q3.below B8 q3.lt
    have hB8 := bt hB7 B8
    refine WL.nil (NX.next ?_)
    obtain ⟨U1, hU, hU1, hUa⟩ := H8.bx
    have hone8 : ∀ u ∈ (partA (thrD p.layers.length p x).1 U1 T2).toList, u.oneCell' = true := by
     obtain ⟨a', c', e', _⟩ := hU1.lenS
     rw [e', e2]; exact part_one _
    have hgk := H8.kg
    have hz7 : w.heap.size + 1 + 1 + 1 < v7.heap.size := by have := p3.lt; have := hf7.size; omega
    have hg2 : g ≠ w.heap.size + 1 + 1 := fun e => n2 (e ▸ H6.kg)
    refine CW.seq (CW.any (fun W => RBlk W g 29 (partA (thrD p.layers.length p x).1 U1 T2) ∧ RBlk W v7.heap.size 34 (repA (thrD p.layers.length p x).2)) 3 mo fun wd hwd hBd => ⟨⟨hU.below hBd hU.lt, R8.below hBd R8.lt⟩, ?_⟩)
    replace H8 := H8.below hBd
    replace hU1 := hU1.keep (fun b ho => hBd.block b (hU1.out ho).2.2) fun _ h => h
    replace q2 := q2.below hBd q2.lt
    replace q3 := q3.below hBd q3.lt
    replace R8 := R8.below hBd R8.lt
    replace hU := hU.below hBd hU.lt
    replace hB8 := bt hB8 hBd
    refine AU.take 0 rfl (by kernel_rfl) (by kernel_rfl) (by kernel_rfl) (by kernel_rfl) (fun _ _ _ h => h) rfl rfl (fun W hW => r_loadS rfl rfl Tryz.underlying29 rfl hW.1 is_p) (by decide) ⟨hU, R8⟩ ?_
    refine AU.take 1 rfl (by kernel_rfl) (by kernel_rfl) (by kernel_rfl) (by kernel_rfl) (fun _ _ _ h => h) rfl rfl (fun W hW => r_loadS rfl rfl Tryz.underlying34 rfl hW.2 is_r) (by decide) ⟨hU, R8⟩ ?_
    refine AU.st 2 rfl (by kernel_rfl) rfl rfl rfl rfl rfl q2 rfl hone8 is_p (fun w' ho _ => ⟨(ho.block _ hg2).trans hU, (ho.block _ (by omega)).trans R8⟩) fun wj Rj Oj => ?_
    refine AU.st 3 rfl (by kernel_rfl) rfl rfl rfl rfl rfl (show RBlk wj (w.heap.size + 1 + 1 + 1) 34 zReply from (Oj.block _ (by omega)).trans q3) rfl (rep_one _) is_r (fun _ _ h => absurd rfl h) fun wk Rk Ok => ?_
    refine AU.done (by kernel_rfl) (NX.next (CW.ret ?_))
    have e : callD p x = thrD p.layers.length p x := by unfold callD; rw [if_neg (by simp [hpp, hcc]), if_neg (by simp [hoo])]
    rw [e]
    obtain ⟨_, _, _, _, v0, v9⟩ := thr_ok p.layers.length p x hpp (Nat.le_refl _) hcc hoo
    obtain ⟨⟨s0, s7⟩, s1, s2, s3⟩ := thr_small p.layers.length p x
    have e1 : IntKind.i64.min = -9223372036854775808 ∧ IntKind.i64.max = 9223372036854775807 := by decide
    exact NX.body2 rfl rfl rfl (show RBlk wk (w.heap.size + 1 + 1) 29 (partA (thrD p.layers.length p x).1 U1 T2) from (Ok.block _ (by omega)).trans Rj) Rk Tryz.underlying29 Tryz.underlying34 rfl rfl is_p is_r (call_end (K := Gr (fun b => wa.heap.size ≤ b ∧ b < w6.heap.size) w11 v7) (fun q hq => hM.1 q hq) hB8 hU1 H8.ly hUa H8.ks H8.ct (fun b hb => by rcases hb with hb | hb; exact hK b hb; have := hBw.size; omega) Oj Ok (fun q => by rcases q with q | q; exact n2 q; have := p2.lt; omega) (fun q => by rcases q with q | q; exact n3 q; have := p3.lt; omega) (by omega) (by omega) (rep_read (by rw [e1.1, e1.2]; omega) (by rw [e1.1, e1.2]; omega) (by unfold maxLen; omega) (by rw [s2]; decide) (by rw [s3]; decide)))
end Go.Proofs.YtbgcaneflfdddaaGreatDoor
/- Where a walk stands that draws a part: a part in a box of the walk's own, the cursor's box, the answer's box. -/
namespace Go.Proofs.YtbgcaneflfdddaaGreatDoor
open Go.RowKit Go
variable [GC]
theorem cur_bar {w : World} {M : Addr → Prop} {cs : List D} {us : List Value} {p0 : Addr} (hc : Cur cs) (hr : Rs w M cs us) (hp : ∀ n, w.cell? p0 ≠ some (.int .u8 n)) : Rs w (fun q => M q ∨ q = p0) cs us := by
 obtain ⟨rows, i, h, rfl, hty, _⟩ := hc
 obtain ⟨v, r, rfl, hv, hr⟩ := hr
 refine ⟨v, r, rfl, ?_, hr⟩
 obtain ⟨a, len, cap, e, h1, h2, h3, h4, h5⟩ := hv
 refine ⟨a, len, cap, e, h1, h2, h3, h4, fun b o s ha => ⟨(h5 b o s ha).1, ?_⟩⟩
 have key : ∀ (rows : List (List D)) (b o : Nat), RowsTy tbl.tab [.int .u8] rows → Rws w M rows b o → Rws w (fun q => M q ∨ q = p0) rows b o := by
  intro rows
  induction rows with
  | nil => intro b o _ _; trivial
  | cons x l ih =>
   intro b o ht hw
   simp only [RowsTy] at ht
   refine ⟨?_, ih b _ ht.2 hw.2⟩
   have h1 := hw.1
   match x, ht.1, h1 with
   | [d], ht, h1 =>
    obtain ⟨⟨u, c1, c2, c3⟩, _⟩ := h1
    refine ⟨⟨u, c1, fun hq => ?_, ?_⟩, trivial⟩
    ·rcases hq with hq | hq
     ·exact c2 hq
     ·rw [hq] at c1
      match d, ht.1, c3 with
      | .int k n, ht, c3 =>
       have hk : IntKind.u8 = k := ht
       subst hk
       rw [c3.1] at c1
       exact hp n c1
    ·match d, ht.1, c3 with
     | .int k n, ht, c3 => exact c3
 exact key rows b o hty (h5 b o s ha).2
theorem cell_far {w : World} {p q : Addr} {v : Value} (h : q ≠ p) (hp : p.spot = none) : (w.setCell p v).cell? q = w.cell? q := by
 by_cases hb : q.block = p.block
 ·unfold World.cell? World.setCell
  simp only [Array.getElem?_modify]
  rw [if_pos hb.symm]
  cases w.heap[q.block]? with
  | none => rfl
  | some ob =>
   cases ob with
   | cells c t f =>
    simp only [Option.map_some, hp, Option.isSome_none, Bool.false_eq_true, if_false]
    cases hq : q.spot with
    | some x => simp
    | none =>
     simp only [Option.isSome_none, Bool.false_eq_true, if_false]
     have hne : p.off ≠ q.off := fun e => h (by cases p; cases q; simp_all)
     exact Array.getElem?_setIfInBounds_ne hne
   | _ => rfl
 ·exact World.cell?_of_block (Below.heap_setCell _ _ _ _ hb)
structure LD (w0 : World) (M : Addr → Prop) (gc g2 g3 : Nat) (Ba : Addr → Prop) (a : Part × List D) (S1 S2 : Value) (w : World) : Prop where
 fr : Fr w0.heap.size (some gc) w0 w
 rdy : Rdy w Ba
 bM : ∀ q, M q → Ba q
 gM : ∀ q : Addr, q.block = gc → M q
 ng : NG ≤ gc
 gl : gc < w0.heap.size
 low : ∀ q, M q → q.block < w0.heap.size
 hc : Cur a.2
 cur : ∃ us T, w.heap[gc]? = some (.cells us.toArray T (0, 0)) ∧ Rs w Ba a.2 us
 k2 : w0.heap.size ≤ g2 ∧ ∀ q : Addr, q.block = g2 → Ba q
 k3 : w0.heap.size ≤ g3 ∧ ∀ q : Addr, q.block = g3 → Ba q
 s1 : ∀ q, spareIn S1 2 q → Ba q
 s2 : ∀ q, spareIn S2 2 q → Ba q
 ne : g2 ≠ g3
 b2 : RBlk w g2 29 zPart
 b3 : RBlk w g3 29 (partA a.1 S1 S2)
 r1 : Row2 (fun b => w0.heap.size ≤ b ∧ b ≠ g2) w g3 S1 (prC a.1.core.cells)
 r2 : Row2 (fun b => w0.heap.size ≤ b ∧ b ≠ g2) w g3 S2 (prL a.1.layers)
 ap : ∀ b, OutB S1 b → ¬ OutB S2 b
 ks : a.1.core.kind.size ≤ maxLen
 ct : IntKind.i64.min ≤ a.1.core.count ∧ a.1.core.count ≤ IntKind.i64.max
section
variable {w0 w w' : World} {M : Addr → Prop} {gc g2 g3 : Nat} {Ba Ba' : Addr → Prop} {a : Part × List D} {S1 S2 : Value}
theorem LD.size (h : LD w0 M gc g2 g3 Ba a S1 S2 w) : w0.heap.size ≤ w.heap.size := h.fr.size
theorem LD.more (h : LD w0 M gc g2 g3 Ba a S1 S2 w) (hb : Below w.heap.size w w') (h1 : ∀ q, Ba q → Ba' q) (h2 : ∀ q, Ba' q → q.block < w.heap.size → Ba q) (h3 : ∀ q, Ba' q → q.block < w'.heap.size) : LD w0 M gc g2 g3 Ba' a S1 S2 w' := by
 have hgl : gc < w.heap.size := Nat.lt_of_lt_of_le h.gl h.size
 obtain ⟨us, T, c1, c2⟩ := h.cur
 exact ⟨h.fr.trans (Fr.of_below hb h.size), h.rdy.below hb h3, fun q hq => h1 q (h.bM q hq), h.gM, h.ng, h.gl, h.low, h.hc, ⟨us, T, by rw [hb.block gc hgl]; exact c1, Rs.keep (Keeps.below hb fun q hq hm => h2 _ hm hq) _ _ c2⟩, ⟨h.k2.1, fun q hq => h1 q (h.k2.2 q hq)⟩, ⟨h.k3.1, fun q hq => h1 q (h.k3.2 q hq)⟩, fun q hq => h1 q (h.s1 q hq), fun q hq => h1 q (h.s2 q hq), h.ne, h.b2.below hb h.b2.lt, h.b3.below hb h.b3.lt,
  h.r1.keep (fun b ho => hb.block b (h.r1.out ho).2.2) (fun _ h => h), h.r2.keep (fun b ho => hb.block b (h.r2.out ho).2.2) (fun _ h => h), h.ap, h.ks, h.ct⟩
theorem LD.below (h : LD w0 M gc g2 g3 Ba a S1 S2 w) (hb : Below w.heap.size w w') : LD w0 M gc g2 g3 Ba a S1 S2 w' :=
 h.more hb (fun _ h => h) (fun _ h _ => h) fun q hk => Nat.lt_of_lt_of_le (h.rdy.1 q hk) hb.size
theorem LD.draw (h : LD w0 M gc g2 g3 Ba a S1 S2 w) {cs' : List D} (hcs : Cur cs') (hf : Fr w.heap.size (some gc) w w') (hc : ∃ us T, w'.heap[gc]? = some (.cells us.toArray T (0, 0)) ∧ Rs w' Ba cs' us) : LD w0 M gc g2 g3 Ba (a.1, cs') S1 S2 w' := by
 have hne : ∀ b, w0.heap.size ≤ b → some b ≠ some gc := fun b hb e => by have := h.gl; simp at e; omega
 have hng : ∀ b, w0.heap.size ≤ b → b < w.heap.size → w'.heap[b]? = w.heap[b]? := fun b h1 h2 => hf.block b h2 (hne b h1)
 refine ⟨h.fr.trans ⟨hf.os, hf.tape, hf.output, hf.size, fun k hk => hf.block k (Nat.lt_of_lt_of_le hk h.size)⟩, ⟨fun q hq => Nat.lt_of_lt_of_le (h.rdy.1 q hq) hf.size, h.rdy.2.1.keep fun k hk => hf.block k (Nat.lt_of_lt_of_le hk h.rdy.2.2) (fun e => by have := h.ng; simp at e; omega), Nat.le_trans h.rdy.2.2 hf.size⟩, h.bM, h.gM, h.ng, h.gl, h.low, hcs, hc, h.k2, h.k3, h.s1, h.s2, h.ne, ?_, ?_, ?_, ?_, h.ap, h.ks, h.ct⟩
 ·exact (hng _ h.k2.1 h.b2.lt).trans h.b2
 ·exact (hng _ h.k3.1 h.b3.lt).trans h.b3
 ·exact h.r1.keep (fun b ho => by have := h.r1.out ho; exact hng b this.1.1 this.2.2) fun _ h => h
 ·exact h.r2.keep (fun b ho => by have := h.r2.out ho; exact hng b this.1.1 this.2.2) fun _ h => h
theorem LD.can (h : LD w0 M gc g2 g3 Ba a S1 S2 w) : Rdy w Ba ∧ ∀ cs, some a.2 = some cs → ∃ us T, w.heap[gc]? = some (.cells us.toArray T (0, 0)) ∧ Rs w Ba cs us ∧ NG ≤ gc ∧ ∀ q : Addr, q.block = gc → Ba q := by
 obtain ⟨us, T, c1, c2⟩ := h.cur
 exact ⟨h.rdy, fun cs e => by cases e; exact ⟨us, T, c1, c2, h.ng, fun q hq => h.bM q (h.gM q hq)⟩⟩
theorem LD.draws (h : LD w0 M gc g2 g3 Ba a S1 S2 w) {f : FuncId} {xs : List D} {vs : List Value} {r : D} {cs' : List D} (hcs : Cur cs') (hF : Fun Tryz.prog f (some a.2) xs r cs') (hx : Rs w Ba xs vs) :
  Calls Tryz.prog f (.pointer (some ⟨gc, 0, none⟩) :: vs).toArray w fun e w' => ∃ v, e = .returned v ∧ R w' Ba r v ∧ Fr w.heap.size (some gc) w w' ∧ LD w0 M gc g2 g3 Ba (a.1, cs') S1 S2 w' := by
 obtain ⟨h1, h2⟩ := h.can
 refine (hF.2 w _ gc vs h1 hx h2).mono ?_
 rintro e w' ⟨v, rfl, q1, q2, q3⟩
 exact ⟨v, rfl, q1, q2, h.draw hcs q2 (q3 rfl)⟩
theorem LD.curOne (h : LD w0 M gc g2 g3 Ba a S1 S2 w) {b : Nat} (ho : OneBlock w w' b) (hk : ∀ q : Addr, q.block = b → Ba q) (hw : w0.heap.size ≤ b) : ∃ us T, w'.heap[gc]? = some (.cells us.toArray T (0, 0)) ∧ Rs w' Ba a.2 us := by
 have hgc : gc ≠ b := fun e => by have := h.gl; omega
 obtain ⟨us, T, c1, c2⟩ := h.cur
 refine ⟨us, T, (ho.block gc hgc).trans c1, Rs.keep (fun q v hc hm => ⟨?_, hm⟩) _ _ c2⟩
 have : q.block ≠ b := fun e => hm (hk q e)
 unfold World.cell? at hc ⊢
 rw [ho.block _ this]; exact hc
theorem LD.frOne (h : LD w0 M gc g2 g3 Ba a S1 S2 w) {b : Nat} (ho : OneBlock w w' b) (hw : w0.heap.size ≤ b) : Fr w0.heap.size (some gc) w0 w' ∧ Rdy w' Ba :=
 ⟨⟨ho.os.trans h.fr.os, ho.tape.trans h.fr.tape, ho.output.trans h.fr.output, by rw [ho.size]; exact h.size, fun k h1 h2 => (ho.block k (by omega)).trans (h.fr.block k h1 h2)⟩, ⟨fun q hq => by rw [ho.size]; exact h.rdy.1 q hq, h.rdy.2.1.keep fun k hk => ho.block k (by have := h.ng; have := h.gl; omega), by rw [ho.size]; exact h.rdy.2.2⟩⟩
theorem LD.one (h : LD w0 M gc g2 g3 Ba a S1 S2 w) {b : Nat} (ho : OneBlock w w' b) (hw : w0.heap.size ≤ b) (hk : ∀ q : Addr, q.block = b → Ba q) (h2 : b ≠ g2) (h3 : b ≠ g3) (hs1 : ¬ OutB S1 b) (hs2 : ¬ OutB S2 b) : LD w0 M gc g2 g3 Ba a S1 S2 w' := by
 obtain ⟨f1, f2⟩ := h.frOne ho hw
 exact ⟨f1, f2, h.bM, h.gM, h.ng, h.gl, h.low, h.hc, h.curOne ho hk hw, h.k2, h.k3, h.s1, h.s2, h.ne, (ho.block _ (Ne.symm h2)).trans h.b2, (ho.block _ (Ne.symm h3)).trans h.b3, h.r1.keep (fun x hx => ho.block x fun e => hs1 (e ▸ hx)) (fun _ h => h), h.r2.keep (fun x hx => ho.block x fun e => hs2 (e ▸ hx)) (fun _ h => h), h.ap, h.ks, h.ct⟩
theorem LD.turn (h : LD w0 M gc g2 g3 Ba a S1 S2 w) {q : Part} {T1 T2 : Value} (ho : OneBlock w w' g3) (hb : RBlk w' g3 29 (partA q T1 T2)) (h1 : Row2 (fun b => w0.heap.size ≤ b ∧ b ≠ g2) w g3 T1 (prC q.core.cells)) (h2 : Row2 (fun b => w0.heap.size ≤ b ∧ b ≠ g2) w g3 T2 (prL q.layers)) (hap : ∀ b, OutB T1 b → ¬ OutB T2 b)
  (z1 : ∀ q, spareIn T1 2 q → Ba q) (z2 : ∀ q, spareIn T2 2 q → Ba q) (hks : q.core.kind.size ≤ maxLen) (hct : IntKind.i64.min ≤ q.core.count ∧ q.core.count ≤ IntKind.i64.max) : LD w0 M gc g2 g3 Ba (q, a.2) T1 T2 w' := by
 obtain ⟨f1, f2⟩ := h.frOne ho h.k3.1
 exact ⟨f1, f2, h.bM, h.gM, h.ng, h.gl, h.low, h.hc, h.curOne ho h.k3.2 h.k3.1, h.k2, h.k3, z1, z2, h.ne, (ho.block _ h.ne).trans h.b2, hb, h1.keep (fun x hx => ho.block x (h1.out hx).2.1) (fun _ h => h), h2.keep (fun x hx => ho.block x (h2.out hx).2.1) (fun _ h => h), hap, hks, hct⟩
theorem LD.put {b o n cap i : Nat} {s : Option Nat} (h : LD w0 M gc g2 g3 Ba a S1 (.slice (some ⟨b, o, s⟩) n cap) w) (hi : i < a.1.layers.length) {v : Int} (hv : IntKind.i64.min ≤ v ∧ v ≤ IntKind.i64.max) :
  LD w0 M gc g2 g3 Ba (setLy a.1 i v, a.2) S1 (.slice (some ⟨b, o, s⟩) n cap) (w.setCell ⟨b, o + i * 2 + 1, none⟩ (.int .i64 v)) := by
 have hly := h.r2
 obtain ⟨al, cap', e, z1, z2⟩ := hly.lenS
 have en : n = (prL a.1.layers).length := by cases e; rfl
 subst en
 have hil : i < (prL a.1.layers).length := by rw [prL_len]; exact hi
 have hob : OutB (.slice (some ⟨b, o, s⟩) (prL a.1.layers).length cap) b := ⟨o, s, _, cap, rfl, by cases e; omega⟩
 have hb := hly.out hob
 have hput := hly.put hil hv
 have hset : (prL a.1.layers).set i ((nth (prL a.1.layers) i).1, v) = prL (a.1.layers.set i ⟨(nth a.1.layers i).name, v⟩) := by
  rw [prL_nth hi]
  unfold prL
  rw [List.map_set]
 rw [hset] at hput
 have ho : OneBlock w (w.setCell ⟨b, o + i * 2 + 1, none⟩ (.int .i64 v)) b := (OneBlock.refl w b).set _ _
 obtain ⟨f1, f2⟩ := h.frOne ho hb.1.1
 have hcell : w.cell? ⟨b, o + i * 2 + 1, none⟩ = some (.int .i64 (nth a.1.layers i).count) := by
  obtain ⟨b', o', cp, e, h1, h2, h3, h4, h5, h6, h7⟩ := hly.at hil
  simp only [Value.slice.injEq, Option.some.injEq, Addr.mk.injEq] at e
  obtain ⟨⟨rfl, rfl, rfl⟩, e2, _⟩ := e
  rw [prL_nth hi] at h5
  exact h5
 refine ⟨f1, f2, h.bM, h.gM, h.ng, h.gl, h.low, h.hc, ?_, h.k2, h.k3, h.s1, h.s2, h.ne, (ho.block _ (Ne.symm hb.1.2)).trans h.b2, (ho.block _ (Ne.symm hb.2.1)).trans h.b3, ?_, hput, h.ap, h.ks, h.ct⟩
 ·have hgc : gc ≠ b := fun e => by have := h.gl; omega
  obtain ⟨us, T, c1, c2⟩ := h.cur
  have c3 := cur_bar (p0 := ⟨b, o + i * 2 + 1, none⟩) h.hc c2 (fun n e => by rw [hcell] at e; simp at e)
  refine ⟨us, T, (ho.block gc hgc).trans c1, Rs.keep (fun q v' hc hm => ⟨?_, fun hq => hm (.inl hq)⟩) _ _ c3⟩
  have hne : q ≠ ⟨b, o + i * 2 + 1, none⟩ := fun e => hm (.inr e)
  rw [cell_far hne rfl]; exact hc
 ·exact h.r1.keep (fun x hx => ho.block x fun e => h.ap x hx (e ▸ hob)) fun _ h => h
theorem LD.lay {b o n cap i : Nat} {s : Option Nat} (h : LD w0 M gc g2 g3 Ba a S1 (.slice (some ⟨b, o, s⟩) n cap) w) (hi : i < a.1.layers.length) :
  s = none ∧ n = a.1.layers.length ∧ w.cell? ⟨b, o + i * 2, none⟩ = some (.string (nth a.1.layers i).name) ∧ w.cell? ⟨b, o + i * 2 + 1, none⟩ = some (.int .i64 (nth a.1.layers i).count) ∧ (∀ x y, w.frozen? ⟨b, x, y⟩ = false) ∧ (w0.heap.size ≤ b ∧ b ≠ g2) ∧ b ≠ g3 ∧ (nth a.1.layers i).name.size ≤ maxLen := by
 have hil : i < (prL a.1.layers).length := by rw [prL_len]; exact hi
 obtain ⟨b', o', cp, e, h1, h2, h3, h4, h5, h6, h7⟩ := h.r2.at hil
 simp only [Value.slice.injEq, Option.some.injEq, Addr.mk.injEq] at e
 obtain ⟨⟨rfl, rfl, rfl⟩, e2, _⟩ := e
 rw [prL_nth hi] at h4 h5
 have := h.r2.okn hil
 rw [prL_nth hi] at this
 exact ⟨rfl, by rw [e2, prL_len], h4, h5, h6, h1, h2, this.1⟩
theorem LD.lenS (h : LD w0 M gc g2 g3 Ba a S1 S2 w) : ∃ al cap, S2 = .slice al a.1.layers.length cap ∧ a.1.layers.length ≤ cap ∧ cap ≤ maxLen := by
 obtain ⟨al, cap, e, z1, z2⟩ := h.r2.lenS
 rw [prL_len] at e z1
 exact ⟨al, cap, e, z1, z2⟩
theorem LD.hone (h : LD w0 M gc g2 g3 Ba a S1 S2 w) : ∀ u ∈ (partA a.1 S1 S2).toList, u.oneCell' = true := by
 obtain ⟨a1, c1, e1, _⟩ := h.r1.lenS
 obtain ⟨a2, c2, e2, _⟩ := h.r2.lenS
 rw [e1, e2]; exact part_one _
theorem LD.arg (h : LD w0 M gc g2 g3 Ba a S1 S2 w) : R w M (enc a.1) (.agg (partA a.1 S1 S2)) := by
 have rd : ∀ (S : Value) (l : List (ByteArray × Int)), Row2 (fun b => w0.heap.size ≤ b ∧ b ≠ g2) w g3 S l → R w M (.sl (l.map rowP)) S := fun S l hR => hR.rd fun b o cap i e hk hi hq => by
  have := h.low _ hq; have := hk.1; simp only at *; omega
 have c1 := rd S1 _ h.r1
 have c2 := rd S2 _ h.r2
 rw [prC_row] at c1
 rw [prL_row] at c2
 exact ⟨_, rfl, ⟨_, _, rfl, ⟨rfl, h.ks⟩, _, _, rfl, rfl, _, _, rfl, rfl, _, _, rfl, c1, _, _, rfl, ⟨rfl, h.ct⟩, _, _, rfl, c2, rfl⟩⟩
theorem LD.rdyM (h : LD w0 M gc g2 g3 Ba a S1 S2 w) : Rdy w M := ⟨fun q hq => Nat.lt_of_lt_of_le (h.low q hq) h.size, h.rdy.2⟩
end
theorem PB.give1 {K : Nat → Prop} {w : World} {g B : Nat} {S1 S2 : Value} {p : Part} {M : Addr → Prop} (h1 : Row2 K w g S1 (prC p.core.cells)) (h2 : Row2 K w g S2 (prL p.layers)) (ha : ∀ b, OutB S1 b → ¬ OutB S2 b) (hks : p.core.kind.size ≤ maxLen) (hct : IntKind.i64.min ≤ p.core.count ∧ p.core.count ≤ IntKind.i64.max)
  (hK : ∀ b, K b → B ≤ b) (hM : ∀ q, M q → q.block < B) {v : Value} (hv : v = .agg #[.string p.core.kind, .bool p.core.on, .bool p.core.broken, S1, .int .i64 p.core.count, S2]) :
  R w (fun q => M q ∨ RtM v [(3, 2), (5, 2)] q) (enc p) v ∧ RtOk B w v [(3, 2), (5, 2)] := by
 have hr : R w (fun _ => True) (.bool true) (.bool true) := rfl
 obtain ⟨q1, q2⟩ := PB.give (M := M) h1 h2 ha hks hct hK hM hr (v := .tuple #[v, .bool true]) (by rw [hv])
 have e3 : rtV (.tuple #[v, .bool true]) (3, 2) = rtV v (3, 2) := by subst hv; rfl
 have e5 : rtV (.tuple #[v, .bool true]) (5, 2) = rtV v (5, 2) := by subst hv; rfl
 have eM : RtM (.tuple #[v, .bool true]) [(3, 2), (5, 2)] = RtM v [(3, 2), (5, 2)] := by
  funext q; apply propext
  unfold RtM
  constructor
  ·rintro ⟨x, hx, h⟩
   refine ⟨x, hx, ?_⟩
   simp at hx
   rcases hx with rfl | rfl
   ·rw [← e3]; exact h
   ·rw [← e5]; exact h
  ·rintro ⟨x, hx, h⟩
   refine ⟨x, hx, ?_⟩
   simp at hx
   rcases hx with rfl | rfl
   ·rw [e3]; exact h
   ·rw [e5]; exact h
 rw [eM] at q1
 obtain ⟨cs, e, u, r, e2, hu, _⟩ := q1
 have hcs : cs = #[v, .bool true] := by simpa using e.symm
 subst hcs
 simp at e2
 obtain ⟨rfl, _⟩ := e2
 refine ⟨hu, fun x hx => ?_, fun i j x y hi hj hne => ?_⟩
 ·have := q2.1 x hx
  simp at hx
  rcases hx with rfl | rfl
  ·rw [← e3]; exact this
  ·rw [← e5]; exact this
 ·have := q2.2 i j x y hi hj hne
  have hx : x = (3, 2) ∨ x = (5, 2) := by simpa using List.mem_of_getElem? hi
  have hy : y = (3, 2) ∨ y = (5, 2) := by simpa using List.mem_of_getElem? hj
  rcases hx with rfl | rfl <;> rcases hy with rfl | rfl <;> (simp only [e3, e5] at this; exact this)
theorem LD.fin {w0 wi wj : World} {M : Addr → Prop} {gc g2 g3 : Nat} {Ba : Addr → Prop} {a : Part × List D} {S1 S2 : Value} (h : LD w0 M gc g2 g3 Ba a S1 S2 wi) (ho : OneBlock wi wj g2) :
  ∃ v, Ending.returned (.agg (partA a.1 S1 S2)) = .returned v ∧ R wj (fun q => M q ∨ RtM v [(3, 2), (5, 2)] q) (enc a.1) v ∧ Fr w0.heap.size (some gc) w0 wj ∧ RtOk w0.heap.size wj v [(3, 2), (5, 2)] ∧
   (∃ us T, wj.heap[gc]? = some (.cells us.toArray T (0, 0)) ∧ Rs wj (fun q => M q ∨ RtM v [(3, 2), (5, 2)] q) a.2 us) := by
 have k1 := h.r1.keep (w' := wj) (fun b hb => ho.block b (h.r1.out hb).1.2) fun _ h => h
 have k2 := h.r2.keep (w' := wj) (fun b hb => ho.block b (h.r2.out hb).1.2) fun _ h => h
 obtain ⟨q1, q2⟩ := PB.give1 (B := w0.heap.size) (M := M) k1 k2 h.ap h.ks h.ct (fun b hb => hb.1) h.low rfl
 obtain ⟨us, T, c1, c2⟩ := h.curOne ho h.k2.2 h.k2.1
 refine ⟨_, rfl, q1, (h.frOne ho h.k2.1).1, q2, us, T, c1, Rs.keep (fun q v hc hm => ⟨hc, ?_⟩) _ _ c2⟩
 rintro (hq | ⟨x, hx, hsp⟩)
 ·exact hm (h.bM q hq)
 ·simp at hx
  rcases hx with rfl | rfl
  ·exact hm (h.s1 q hsp)
  ·exact hm (h.s2 q hsp)
end Go.Proofs.YtbgcaneflfdddaaGreatDoor
