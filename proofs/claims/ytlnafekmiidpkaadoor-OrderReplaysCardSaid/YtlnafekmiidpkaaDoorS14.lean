/- append, copy, and texts as bytes. -/
import Derived.Test.YtlnafekmiidpkaaDoorS13
import Derived.Lib.AppendZerosOnto
namespace Go.Proofs.YtlnafekmiidpkaaDoor.S
set_option linter.all false
set_option linter.unusedVariables false
set_option linter.unusedSimpArgs false
/-- 'append' within the room. -/
theorem app_room {P : Program} {w : World} {ts : Array TypeId} {t0 t1 e ty : TypeId} {i : TypeInfo} (h0 : ts[0]? = some t0) (h1 : ts[1]? = some t1) (hu0 : P.underlying t0 = some (.slice e)) (hu1 : P.underlying t1 = some .string ∨ ∃ e1, P.underlying t1 = some (.slice e1)) (hi : P.info? e = some i)
    {gb n cap m : Nat} {c : Array Value} {t : Nat} {fr : Nat × Nat} {x : Value} {news : List Value} (hg : w.heap[gb]? = some (.cells c t fr)) (hfz : Fz fr c.size) (hm : (Builtin.lenOf x).run P w = .ok m w) (hf : (Builtin.firstCells i.size m x).run P w = .ok news.toArray w)
    (hroom : n + m ≤ cap) (hfit : n * i.size + news.length ≤ c.size) (ho : ∀ u ∈ news, u.oneCell' = true) :
    (Builtin.append_ ts ty #[.slice (some (at_ gb 0)) n cap, x]).run P w = .ok (.slice (some (at_ gb 0)) (n + m) cap) (w.setRow gb (c.toList.take (n * i.size) ++ news ++ c.toList.drop (n * i.size + news.length)).toArray) := by
  have hst := run_store_row P gb (n * i.size) t fr news 0 c w hg hfz (by omega) ho
  rw [Nat.add_zero] at hst
  have hsz : (sizeOf e).run P w = .ok i.size w := by simp [sizeOf, typeInfo, hi]
  rcases hu1 with hu1 | ⟨e1, hu1⟩ <;> simp [Builtin.append_, h0, h1, run_un hu0, run_un hu1, hsz, hm, hroom, hf, at_add, hst]
/-- The world behind an append beyond the room. -/
def grownW (w : World) (olds news : List Value) (z : Value) (n cap : Nat) (e : TypeId) : World := w.drew.alloc (.cells (olds ++ news ++ (Builtin.zeroCells z.cells (grownCap w n cap e - n)).toList).toArray e)
theorem grownW_new (w : World) (olds news : List Value) (z : Value) (n cap : Nat) (e : TypeId) : (grownW w olds news z n cap e).heap[w.heap.size]? = some (.cells (olds ++ news ++ (Builtin.zeroCells z.cells (grownCap w n cap e - n)).toList).toArray e (0, 0)) := by
  unfold grownW World.alloc World.drew
  simp
theorem grownW_old (w : World) (olds news : List Value) (z : Value) (n cap : Nat) (e : TypeId) (b : Nat) (h : b < w.heap.size) : (grownW w olds news z n cap e).heap[b]? = w.heap[b]? := by
  unfold grownW World.alloc World.drew
  simp only [Array.getElem?_push]
  rw [if_neg (by omega)]
theorem grownW_size (w : World) (olds news : List Value) (z : Value) (n cap : Nat) (e : TypeId) : w.heap.size ≤ (grownW w olds news z n cap e).heap.size := by
  unfold grownW World.alloc World.drew
  simp
/-- 'append' beyond the room. -/
theorem app_grow {P : Program} {w : World} {ts : Array TypeId} {t0 t1 e ty : TypeId} {i : TypeInfo} {z : Value} (h0 : ts[0]? = some t0) (h1 : ts[1]? = some t1) (hu0 : P.underlying t0 = some (.slice e)) (hu1 : P.underlying t1 = some .string ∨ ∃ e1, P.underlying t1 = some (.slice e1)) (hi : P.info? e = some i) (hz : i.zero = some z)
    (hb : 0 < i.bytes) {A : Option Addr} {n cap m : Nat} {x : Value} {olds news : List Value} (hm : (Builtin.lenOf x).run P w = .ok m w) (hfo : (Builtin.firstCells i.size n (.slice A n cap)).run P w.drew = .ok olds.toArray w.drew) (hf : (Builtin.firstCells i.size m x).run P w.drew = .ok news.toArray w.drew)
    (hroom : cap < n + m) (hfit : (n + m) * i.bytes ≤ 140737488355328) :
    (Builtin.append_ ts ty #[.slice A n cap, x]).run P w = .ok (.slice (some (at_ w.heap.size 0)) (n + m) (grownCap w (n + m) cap e)) (grownW w olds news z (n + m) cap e) := by
  unfold grownW
  have hle : n + m ≤ 140737488355328 := Nat.le_trans (Nat.le_mul_of_pos_right _ hb) hfit
  have hn : ¬ (n + m ≤ cap) := by omega
  have h63' : ¬ (9223372036854775807 < ((n : Int) + (m : Int))) := by omega
  have h48' : ¬ (281474976710656 < Builtin.nextslicecap (n + m) cap * i.bytes) := by have := growslice_fits hroom hfit; omega
  have hsz : (sizeOf e).run P w = .ok i.size w := by simp [sizeOf, typeInfo, hi]
  rcases hu1 with hu1 | ⟨e1, hu1⟩
  all_goals
    simp [Builtin.append_, h0, h1, run_un hu0, run_un hu1, hsz, typeInfo, zeroValue, hi, hz, hm, hn, h63', h48', Question.forced, hf, hfo, newRow, grownCap]
    refine ⟨rfl, ?_⟩
    congr 2
    apply Array.ext'
    simp
theorem strCells_len (s : ByteArray) : (bytesOf s).length = s.size := by simp [bytesOf]
section
variable {P : Program} {rs : List ARes} {post : AV → List AObj → Prop} {E : Env} {NK : List AV → List AObj → Node} {K : Act → World → Prop} {rest : List AItem} {Q : Exit → Act → World → Prop}
  {gs : Nat → Gh} {Pr : Nat → Prop} {tm : List AV} {hs : List AObj} {a : Act} {w w' : World} {d : Option Nat} {ty : TypeId} {pos : String} {af : Array Edge} {g : Option (Nat × Bool)} {op : AOp} {o : Oper}
/-- What is read of a slice, or of a text. -/
def Src (P : Program) (Pr : Nat → Prop) (w : World) (sz : Nat) (ys : List (List AV)) (v : Value) : Prop :=
  (∀ w', (Builtin.lenOf v).run P w' = .ok ys.length w') ∧ (∀ row ∈ ys, row.length = sz) ∧ ∀ n, n ≤ ys.length → ∃ l : List Value, l.length = n * sz ∧ (∀ w', w'.heap = w.heap → (Builtin.firstCells sz n v).run P w' = .ok l.toArray w') ∧
    (∀ (i : Nat) row (j : Nat) b u, i < n → ys[i]? = some row → row[j]? = some b → l[i * sz + j]? = some u → Lf Pr w b u) ∧ ∀ u ∈ l, u.oneCell' = true
theorem src_str (s : ByteArray) : Src P Pr w 1 (bytesOf s) (.string s) := by
  refine ⟨fun w' => by rw [strCells_len]; rfl, fun row hr => by simp only [bytesOf, List.mem_map] at hr; obtain ⟨b, _, rfl⟩ := hr; rfl, fun n hn => ?_⟩
  rw [strCells_len] at hn
  refine ⟨((s.extract 0 n).data.map fun b => Value.int .u8 b.toNat).toList, ?_, fun w' _ => rfl, fun i row j b u hi e1 e2 e3 => ?_, fun u hu => ?_⟩
  · have : (s.extract 0 n).size = n := by simp [ByteArray.size_extract]; omega
    simp only [Array.length_toList, Array.size_map, Nat.mul_one]; exact this
  · simp only [bytesOf, List.getElem?_map, Option.map_eq_some_iff] at e1
    obtain ⟨q, hq, rfl⟩ := e1
    have hj0 : j = 0 := by have := (List.getElem?_eq_some_iff.1 e2).1; simpa using this
    subst hj0
    simp at e2
    subst e2
    simp only [Nat.mul_one, Nat.add_zero, Array.toList_map, List.getElem?_map, Option.map_eq_some_iff] at e3
    obtain ⟨p, hp, rfl⟩ := e3
    have : p = q := by
      have h1 : (s.extract 0 n).data.toList[i]? = s.data.toList[i]? := by
        rw [ByteArray.data_extract]
        simp only [Array.toList_extract, List.extract_eq_take_drop, Nat.sub_zero, List.drop_zero, List.getElem?_take, if_pos hi]
      rw [h1, hq] at hp
      injection hp with hp; exact hp.symm
    rw [this]
    exact .int _ _
  · simp only [Array.toList_map, List.mem_map] at hu
    obtain ⟨b, _, rfl⟩ := hu
    rfl
variable (hK : Next P rs post E (fun tm hs => NodeOK P rs post (NK tm hs)) K) (hR : Next P rs post E (fun tm hs => AW P rs rest tm hs post) K) (C : Conc E gs Pr tm hs a w)
theorem src_rd {sz : Nat} {ys : List (List AV)} {v : Value} (h : Rd Pr w sz ys v) : Src P Pr w sz ys v := by
  obtain ⟨A, cap, rfl, hcap, _, h⟩ := h
  refine ⟨fun w' => rfl, ?_, fun n hn => ?_⟩
  · rcases h with rfl | ⟨b, o, l, rfl, h1, h2, h3, h4, h5, h6⟩
    · intro r hr; simp at hr
    · exact h2
  · rcases h with rfl | ⟨b, o, l, rfl, h1, h2, h3, h4, h5, h6⟩
    · have : n = 0 := by simpa using hn
      subst this
      refine ⟨[], by simp, fun w' _ => ?_, fun i row j b u hi => by omega, fun u hu => by simp at hu⟩
      cases A with
      | none => rfl
      | some ad => simp [Builtin.firstCells, loadCells, loadCellsFrom]
    · have hle : n * sz ≤ ys.length * sz := Nat.mul_le_mul_right _ hn
      refine ⟨l.take (n * sz), by simp; omega, fun w' hw => ?_, fun i row j b u hi e1 e2 e3 => ?_, fun u hu => h6 u (List.mem_of_mem_take hu)⟩
      · refine run_firstCells_some (P := P) w' sz n (at_ b o) _ cap _ (by simp; omega) (fun j v hj => ?_)
        rw [at_add, cell_same (w := w) (by rw [hw])]
        rw [List.getElem?_take] at hj
        split at hj
        · exact h4 j v hj
        · cases hj
      · rw [List.getElem?_take] at e3
        split at e3
        · exact h5 i row j b u e1 e2 e3
        · cases e3
include hK C
theorem S_app {ts : Array TypeId} {t0 t1 e : TypeId} {i : TypeInfo} {z : List AV} {x y : Operand} {xa : AV} {ys : List (List AV)} (h0 : ts[0]? = some t0) (h1 : ts[1]? = some t1) (hu0 : P.underlying t0 = some (.slice e)) (hu1 : P.underlying t1 = some .string ∨ ∃ e1, P.underlying t1 = some (.slice e1))
    (hi : P.info? e = some i) (hz : zeroT P e = some z) (hzl : z.length = i.size) (hs0 : 0 < i.size) (hb0 : 0 < i.bytes) (hx : Cz gs (dom hs) Pr w xa (a.eval x)) (hsrc : Src P Pr w i.size ys (a.eval y))
    (hN : NodeOK P rs post (appTo NK d e i.size i.bytes tm hs xa ys)) : Oper.wp P ⟨d, .call { callee := .builtin .append, args := #[x, y], argTypes := ts }, ty, pos, af, g⟩ a w K Q := by
  obtain ⟨it, zv, hit, hzv, rfl, hzo⟩ := zeroT_ok hz
  rw [hi] at hit
  injection hit with hit
  subst hit
  have hzs : zv.cells.size = i.size := by simpa using hzl
  obtain ⟨hlen, hyl, hfirst⟩ := hsrc
  obtain ⟨news, hnl, hnf, hnp, hno⟩ := hfirst ys.length (Nat.le_refl _)
  have run : ∀ {u v : Value} {w' : World}, a.eval x = u → (Builtin.append_ ts ty #[u, a.eval y]).run P w = .ok v w' → (execOp a.eval ⟨d, .call { callee := .builtin .append, args := #[x, y], argTypes := ts }, ty, pos, af, g⟩).run P w = .ok (.value v) w' := by
    intro u v w' e h
    refine run_builtin (l := [x, y]) ?_
    simp only [builtin, List.map_cons, List.map_nil, e, Sem.run_bind, h, Result.andThen_ok, Sem.run_pure]
  have zone : ∀ k, ∀ u ∈ (Builtin.zeroCells zv.cells k).toList, u.oneCell' = true := by
    intro k u hu
    have : Builtin.zeroCells zv.cells k = madeCells zv.cells (k * zv.cells.size) := rfl
    rw [this] at hu
    exact made_one hzo hzs hs0 u hu
  -- a new block
  have grown : ∀ {A : Option Addr} {xs : List (List AV)} {cap : Nat} {olds : List Value}, (∀ row ∈ xs, row.length = i.size) → olds.length = xs.length * i.size → (∀ (p : Nat) row (j : Nat) b u, xs[p]? = some row → row[j]? = some b → olds[p * i.size + j]? = some u → Lf Pr w b u) → (∀ u ∈ olds, u.oneCell' = true) →
      (xs.length + ys.length) ≤ grownCap w (xs.length + ys.length) cap e →
      ∀ gs' D', ObjOK gs' D' Pr (grownW w olds news zv (xs.length + ys.length) cap e) ⟨w.heap.size, .slice (some (at_ w.heap.size 0)) (xs.length + ys.length) (grownCap w (xs.length + ys.length) cap e)⟩ (.grow e i.size (xs ++ ys)) := by
    intro A xs cap olds hxl hol hop hoo hge gs' D'
    have hP : ∀ b, Pr b → (grownW w olds news zv (xs.length + ys.length) cap e).heap[b]? = w.heap[b]? := fun b hb => grownW_old _ _ _ _ _ _ _ _ (C.rep.pr b hb)
    refine ⟨hs0, fun row hr => ?_, .inr ⟨grownCap w (xs.length + ys.length) cap e, by rw [List.length_append], by rw [List.length_append]; exact hge, _, (0, 0), grownW_new _ _ _ _ _ _ _, (.inl rfl), fun u hu => ?_, ?_, fun p row j b u e1 e2 e3 => ?_⟩⟩
    · rcases List.mem_append.1 hr with hr | hr
      · exact hxl row hr
      · exact hyl row hr
    · simp only [List.mem_append] at hu
      rcases hu with (hu | hu) | hu
      · exact hoo u hu
      · exact hno u hu
      · exact zone _ u hu
    · simp only [List.size_toArray, List.length_append, hol, hnl, Array.length_toList, size_zeroCells, hzs, ← Nat.add_mul]
      congr 1; omega
    · rw [List.getElem?_toArray, List.append_assoc] at e3
      have hj : j < i.size := by
        have hrl : row.length = i.size := by
          rcases List.mem_append.1 (List.mem_of_getElem? e1) with hr | hr
          · exact hxl row hr
          · exact hyl row hr
        rw [← hrl]; exact (List.getElem?_eq_some_iff.1 e2).1
      by_cases hp : p < xs.length
      · rw [List.getElem?_append_left hp] at e1
        have : (p + 1) * i.size ≤ xs.length * i.size := Nat.mul_le_mul_right _ hp
        rw [Nat.add_mul] at this
        rw [List.getElem?_append_left (by omega)] at e3
        exact (hop p row j b u e1 e2 e3).mono (fun _ h => h) hP
      · rw [List.getElem?_append_right (by omega)] at e1
        have hq := (List.getElem?_eq_some_iff.1 e1).1
        have : (p - xs.length + 1) * i.size ≤ ys.length * i.size := Nat.mul_le_mul_right _ hq
        rw [Nat.add_mul] at this
        have h5 : p * i.size = xs.length * i.size + (p - xs.length) * i.size := by rw [← Nat.add_mul]; congr 1; omega
        rw [List.getElem?_append_right (by omega), List.getElem?_append_left (by omega)] at e3
        rw [show p * i.size + j - olds.length = (p - xs.length) * i.size + j by omega] at e3
        exact (hnp _ row j b u hq e1 e2 e3).mono (fun _ h => h) hP
  unfold appTo at hN
  split at hN
  · rename_i k
    obtain ⟨e1, hk⟩ := hx.own_
    split at hN
    case h_2 => exact hN.elim
    rename_i t' zz xs ho
    split at hN
    case h_2 => exact hN.elim
    rename_i hb
    simp only [Bool.and_eq_true] at hb
    obtain ⟨hb1, hb2⟩ := hb
    obtain rfl := Nat.eq_of_beq_eq_true hb1
    have hzz : zz = i.size := (Nat.eq_of_beq_eq_true hb2).symm
    subst hzz
    obtain ⟨hfit, hN⟩ := hN
    obtain ⟨_, hxl, hob⟩ := C.obj hk ho
    have hgk : isGrow (getO hs k) := by rw [ho]; trivial
    have fin : ∀ {w' : World} {g' : Gh}, (Builtin.append_ ts ty #[(gs k).hd, a.eval y]).run P w = .ok g'.hd w' → (∃ A n c, g'.hd = .slice A n c) → Conc E (upd gs k g') Pr (kills k tm) (setO (killOs k hs) k (.grow e i.size (xs ++ ys))) a w' → Oper.wp P ⟨d, .call { callee := .builtin .append, args := #[x, y], argTypes := ts }, ty, pos, af, g⟩ a w K Q := by
      intro w' g' hr hg' C1
      have := Cz.own (gs := upd gs k g') (D := dom (setO (killOs k hs) k (.grow e i.size (xs ++ ys)))) (Pr := Pr) (w := w') k (by
        have : lenO (setO (killOs k hs) k (.grow e i.size (xs ++ ys))) = lenO hs := by rw [lenO_eq, setO_eq, List.length_set, ← lenO_eq, killOs_len]
        show k < _; rw [this]; exact hk) (by rw [upd_self]; exact hg')
      rw [upd_self] at this
      exact wp_val (run e1 hr) (hK _ _ hN _ _ _ _ (C1.put _ this))
    have hdm : ∀ k' , dom hs k' → dom hs k' := fun _ h => h
    rcases hob with ⟨rfl, hhd⟩ | ⟨cap, hhd, hcap, c, fr, hc1, hfz, hoc, hcs, hpt⟩
    · by_cases h00 : ys.length = 0
      · have hys : ys = [] := List.length_eq_zero_iff.1 h00
        subst hys
        have hr : (Builtin.append_ ts ty #[(gs k).hd, a.eval y]).run P w = .ok (.slice none 0 0) w := by
          have hsz : (sizeOf e).run P w = .ok i.size w := by simp [sizeOf, typeInfo, hi]
          have hm := hlen w
          have hnn : news = [] := List.length_eq_zero_iff.1 (by simpa using hnl)
          have hf := hnf w rfl
          rw [hnn] at hf
          rw [hhd]
          simp only [List.length_nil] at hm hf
          rcases hu1 with hu1 | ⟨e1, hu1⟩ <;> simp [Builtin.append_, h0, h1, run_un hu0, run_un hu1, hsz, hm, hf]
        refine fin (g' := ⟨(gs k).blk, .slice none 0 0⟩) hr ⟨_, _, _, rfl⟩ (C.rebind hk hgk ⟨(gs k).blk, .slice none 0 0⟩ _ (fun _ _ _ => rfl) (Nat.le_refl _) rfl rfl rfl (fun l => absurd rfl l) ⟨hs0, fun r hr => by simp at hr, .inl ⟨rfl, rfl⟩⟩)
      · have hr := app_grow (P := P) (w := w) (ts := ts) (t0 := t0) (t1 := t1) (e := e) (ty := ty) (i := i) (z := zv) h0 h1 hu0 hu1 hi hzv hb0 (A := none) (n := 0) (cap := 0) (m := ys.length) (x := a.eval y) (olds := []) (news := news) (hlen w) rfl (hnf _ rfl) (by omega) (by simpa using hfit)
        have hge : ([] : List (List AV)).length + ys.length ≤ grownCap w (([] : List (List AV)).length + ys.length) 0 e := grownCap_ge w _ 0 e
        have hob := grown (A := none) (xs := []) (cap := 0) (olds := []) (fun r hr => by simp at hr) (by simp) (fun p row j b u h => by simp at h) (fun u hu => by simp at hu) hge
        exact fin (w' := grownW w [] news zv (([] : List (List AV)).length + ys.length) 0 e) (g' := ⟨w.heap.size, .slice (some (at_ w.heap.size 0)) (([] : List (List AV)).length + ys.length) (grownCap w (([] : List (List AV)).length + ys.length) 0 e)⟩) (by rw [hhd]; exact hr) ⟨_, _, _, rfl⟩
          (C.rebind hk hgk _ _ (fun b hb _ => grownW_old _ _ _ _ _ _ _ _ hb) (grownW_size _ _ _ _ _ _ _) rfl rfl rfl (fun _ => .inr (Nat.le_refl _)) (hob _ _))
    · have hlk : live (gs k) (getO hs k) := by
        rw [ho]
        show (gs k).hd ≠ _
        rw [hhd]; simp
      have hP : ∀ {cells : Array Value} b, Pr b → (w.setRow (gs k).blk cells).heap[b]? = w.heap[b]? := fun b hb => setRow_other _ _ _ _ fun e => (C.rep.mine k hk hlk).2 (e ▸ hb)
      have hxs : xs.length * i.size ≤ c.size := by rw [hcs]; exact Nat.mul_le_mul_right _ hcap
      by_cases hroom : xs.length + ys.length ≤ cap
      · have hfit2 : xs.length * i.size + news.length ≤ c.size := by rw [hnl, hcs, ← Nat.add_mul]; exact Nat.mul_le_mul_right _ hroom
        have hr := app_room (P := P) (w := w) (ts := ts) (t0 := t0) (t1 := t1) (e := e) (ty := ty) (i := i) h0 h1 hu0 hu1 hi (x := a.eval y) (news := news) hc1 hfz (hlen w) (hnf w rfl) hroom hfit2 hno
        refine fin (g' := ⟨(gs k).blk, .slice (some (at_ (gs k).blk 0)) (xs.length + ys.length) cap⟩) (by rw [hhd]; exact hr) ⟨_, _, _, rfl⟩ (C.rebind hk hgk _ _ (fun b hb h => setRow_other _ _ _ _ (h hlk)) (by simp [World.setRow]) rfl rfl rfl (fun _ => .inl ⟨rfl, hlk⟩) ?_)
        refine ⟨hs0, fun row hr => ?_, .inr ⟨cap, by rw [List.length_append], by rw [List.length_append]; exact hroom, (c.toList.take (xs.length * i.size) ++ news ++ c.toList.drop (xs.length * i.size + news.length)).toArray, fr, setRow_heap _ _ _ _ _ _ hc1, ?_, fun u hu => ?_, ?_, fun p row j b u f1 f2 f3 => ?_⟩⟩
        · rcases List.mem_append.1 hr with hr | hr
          · exact hxl row hr
          · exact hyl row hr
        · have : (c.toList.take (xs.length * i.size) ++ news ++ c.toList.drop (xs.length * i.size + news.length)).toArray.size = c.size := by simp; omega
          rw [this]; exact hfz
        · simp only [List.mem_append] at hu
          rcases hu with (hu | hu) | hu
          · exact hoc u (List.mem_of_mem_take hu)
          · exact hno u hu
          · exact hoc u (List.mem_of_mem_drop hu)
        · simp; omega
        · rw [List.getElem?_toArray, List.append_assoc] at f3
          have l1 : (c.toList.take (xs.length * i.size)).length = xs.length * i.size := by simp; omega
          have hj : j < i.size := by
            have hrl : row.length = i.size := by
              rcases List.mem_append.1 (List.mem_of_getElem? f1) with hr | hr
              · exact hxl row hr
              · exact hyl row hr
            rw [← hrl]; exact (List.getElem?_eq_some_iff.1 f2).1
          by_cases hp : p < xs.length
          · rw [List.getElem?_append_left hp] at f1
            have : (p + 1) * i.size ≤ xs.length * i.size := Nat.mul_le_mul_right _ hp
            rw [Nat.add_mul] at this
            rw [List.getElem?_append_left (by omega), List.getElem?_take, if_pos (by omega)] at f3
            exact (hpt p row j b u f1 f2 (by simpa using f3)).mono (fun _ h => h) hP
          · rw [List.getElem?_append_right (by omega)] at f1
            have hq := (List.getElem?_eq_some_iff.1 f1).1
            have : (p - xs.length + 1) * i.size ≤ ys.length * i.size := Nat.mul_le_mul_right _ hq
            rw [Nat.add_mul] at this
            have h5 : p * i.size = xs.length * i.size + (p - xs.length) * i.size := by rw [← Nat.add_mul]; congr 1; omega
            rw [List.getElem?_append_right (by omega), List.getElem?_append_left (by omega), l1] at f3
            rw [show p * i.size + j - xs.length * i.size = (p - xs.length) * i.size + j by omega] at f3
            exact (hnp _ row j b u hq f1 f2 f3).mono (fun _ h => h) hP
      · have hfo : (Builtin.firstCells i.size xs.length (.slice (some (at_ (gs k).blk 0)) xs.length cap)).run P w.drew = .ok (c.toList.take (xs.length * i.size)).toArray w.drew := by
          refine run_firstCells_some (P := P) w.drew i.size xs.length (at_ (gs k).blk 0) _ cap _ (by simp; omega) (fun j v hj => ?_)
          rw [at_add, Nat.zero_add, cell_at (w := w.drew) hc1]
          rw [List.getElem?_take] at hj
          split at hj
          · simpa using hj
          · cases hj
        have hr := app_grow (P := P) (w := w) (ts := ts) (t0 := t0) (t1 := t1) (e := e) (ty := ty) (i := i) (z := zv) h0 h1 hu0 hu1 hi hzv hb0 (m := ys.length) (x := a.eval y) (news := news) (hlen w) hfo (hnf _ rfl) (by omega) hfit
        have hob := grown (A := some (at_ (gs k).blk 0)) (xs := xs) (cap := cap) (olds := c.toList.take (xs.length * i.size)) hxl (by simp; omega) (fun p row j b u f1 f2 f3 => by
          rw [List.getElem?_take] at f3
          split at f3
          · exact hpt p row j b u f1 f2 (by simpa using f3)
          · cases f3) (fun u hu => hoc u (List.mem_of_mem_take hu)) (grownCap_ge w _ cap e)
        exact fin (w' := grownW w (c.toList.take (xs.length * i.size)) news zv (xs.length + ys.length) cap e) (g' := ⟨w.heap.size, .slice (some (at_ w.heap.size 0)) (xs.length + ys.length) (grownCap w (xs.length + ys.length) cap e)⟩) (by rw [hhd]; exact hr) ⟨_, _, _, rfl⟩
          (C.rebind hk hgk _ _ (fun b hb _ => grownW_old _ _ _ _ _ _ _ _ hb) (grownW_size _ _ _ _ _ _ _) rfl rfl rfl (fun _ => .inr (Nat.le_refl _)) (hob _ _))
  · obtain ⟨hfit, hN⟩ := hN
    have e1 := hx.nils
    have fin : ∀ {w' : World} {g' : Gh}, (Builtin.append_ ts ty #[.slice none 0 0, a.eval y]).run P w = .ok g'.hd w' → (∃ A n c, g'.hd = .slice A n c) → Conc E (upd gs (lenO hs) g') Pr tm (snocO hs (.grow e i.size ys)) a w' → Oper.wp P ⟨d, .call { callee := .builtin .append, args := #[x, y], argTypes := ts }, ty, pos, af, g⟩ a w K Q := by
      intro w' g' hr hg' C1
      have := Cz.own (gs := upd gs (lenO hs) g') (D := dom (snocO hs (.grow e i.size ys))) (Pr := Pr) (w := w') (lenO hs) (by rw [dom_snoc]; exact .inr rfl) (by rw [upd_self]; exact hg')
      rw [upd_self] at this
      exact wp_val (run e1 hr) (hK _ _ hN _ _ _ _ (C1.put _ this))
    by_cases h00 : ys.length = 0
    · have hys : ys = [] := List.length_eq_zero_iff.1 h00
      subst hys
      have hr : (Builtin.append_ ts ty #[.slice none 0 0, a.eval y]).run P w = .ok (.slice none 0 0) w := by
        have hsz : (sizeOf e).run P w = .ok i.size w := by simp [sizeOf, typeInfo, hi]
        have hm := hlen w
        have hnn : news = [] := List.length_eq_zero_iff.1 (by simpa using hnl)
        have hf := hnf w rfl
        rw [hnn] at hf
        simp only [List.length_nil] at hm hf
        rcases hu1 with hu1 | ⟨e1, hu1⟩ <;> simp [Builtin.append_, h0, h1, run_un hu0, run_un hu1, hsz, hm, hf]
      exact fin (g' := ⟨0, .slice none 0 0⟩) hr ⟨_, _, _, rfl⟩ (C.alloc ⟨0, .slice none 0 0⟩ (.grow e i.size []) (fun l => absurd rfl l) (fun _ _ => rfl) (Nat.le_refl _) rfl rfl rfl ⟨hs0, fun r hr => by simp at hr, .inl ⟨rfl, rfl⟩⟩)
    · have hr := app_grow (P := P) (w := w) (ts := ts) (t0 := t0) (t1 := t1) (e := e) (ty := ty) (i := i) (z := zv) h0 h1 hu0 hu1 hi hzv hb0 (A := none) (n := 0) (cap := 0) (m := ys.length) (x := a.eval y) (olds := []) (news := news) (hlen w) rfl (hnf _ rfl) (by omega) (by simpa using hfit)
      have hge : ([] : List (List AV)).length + ys.length ≤ grownCap w (([] : List (List AV)).length + ys.length) 0 e := grownCap_ge w _ 0 e
      have hob := grown (A := none) (xs := []) (cap := 0) (olds := []) (fun r hr => by simp at hr) (by simp) (fun p row j b u h => by simp at h) (fun u hu => by simp at hu) hge
      exact fin (w' := grownW w [] news zv (([] : List (List AV)).length + ys.length) 0 e) (g' := ⟨w.heap.size, .slice (some (at_ w.heap.size 0)) (([] : List (List AV)).length + ys.length) (grownCap w (([] : List (List AV)).length + ys.length) 0 e)⟩) hr ⟨_, _, _, rfl⟩
        (C.alloc _ _ (fun _ => rfl) (fun b hb => grownW_old _ _ _ _ _ _ _ _ hb) (grownW_size _ _ _ _ _ _ _) rfl rfl rfl (hob _ _))
  · exact hN.elim
theorem S_slSl {t e : TypeId} {sz : Nat} {x : Operand} {lo hi : Option Operand} {x' : Opd} {lo' hi' : Option Opd} (hu : P.underlying t = some (.slice e)) (hsz : szT P e = some sz) (hx : cOpd x = some x') (h1 : cOpdO lo = some lo') (h2 : cOpdO hi = some hi')
    (hN : NodeOK P rs post (opN NK d (.slSl sz x' lo' hi') rest tm hs)) : Oper.wp P ⟨d, .slice t x lo hi none, ty, pos, af, g⟩ a w K Q := by
  have hX := C.opd hx
  have run : ∀ (A : Option Addr) (len cap : Nat) (l h : Int), a.eval x = .slice A len cap → ((lo.map a.eval = none ∧ lo' = none ∧ l = 0) ∨ ∃ j, lo.map a.eval = some (.int j l)) → ((hi.map a.eval = none ∧ h = len) ∨ ∃ j, hi.map a.eval = some (.int j h)) →
      0 ≤ l → l ≤ h → h ≤ cap → (execOp a.eval ⟨d, .slice t x lo hi none, ty, pos, af, g⟩).run P w = .ok (.value (.slice (if cap = l.toNat then A else A.map (·.add (l.toNat * sz))) (h.toNat - l.toNat) (cap - l.toNat))) w := by
    intro A len cap l h e1 hl hh h3 h4 h5
    have := bnds (P := P) (w := w) (isS := true) (len := len) (cap := cap) (hl.imp (fun h => ⟨h.1, h.2.2⟩) id) hh h3 h4 h5
    simp only [execOp, Instr.sliceAt, Instr.slice, e1, Sem.run_bind, Sem.run_pure, Result.andThen_ok, run_un hu, Option.map_none, this, run_sz hsz]
  simp only [opN] at hN
  have ro : ∀ {z : Nat} {xs : List (List AV)}, Lf Pr w (.ro z xs) (a.eval x) → z = sz → NodeOK P rs post (lohi tm lo' hi' xs.length fun l h => .need (0 ≤ l ∧ l ≤ h ∧ h ≤ xs.length) (NK (putL tm d (.ro z ((xs.drop l.toNat).take (h.toNat - l.toNat)))) hs)) →
      Oper.wp P ⟨d, .slice t x lo hi none, ty, pos, af, g⟩ a w K Q := by
    intro z xs hL hz hM
    rw [hz] at hL
    obtain ⟨l, h, ⟨⟨h3, h4, h5⟩, hM⟩, hl, hh⟩ := lohi_ok C h1 h2 hM
    rw [hz] at hM
    obtain ⟨A, cap, e1, hcap, hsl⟩ := ro_slice hL
    exact fin_ hK C (run A _ cap l h e1 hl hh h3 h4 (by omega)) (.lf (hsl l.toNat (h.toNat - l.toNat) (by omega))) hM
  split at hN
  · rename_i z xs e
    rw [e] at hX
    split at hN
    · rename_i hz; exact ro hX.ro_ (Nat.eq_of_beq_eq_true hz) hN
    · exact hN.elim
  · rename_i e
    rw [e] at hX
    obtain ⟨l, h, ⟨⟨h3, h4⟩, hN⟩, hl, hh⟩ := lohi_ok (n := 0) C h1 h2 hN
    subst h3; subst h4
    refine fin_ hK C (run none 0 0 0 0 hX.nils hl hh (Int.le_refl _) (Int.le_refl _) (Int.le_refl _)) ?_ hN
    simp only [Int.toNat_zero, if_true, Nat.sub_self]
    exact .lf .nils
  · rename_i k e
    rw [e] at hX
    obtain ⟨e1, hk⟩ := hX.own_
    split at hN
    · rename_i z xs ho
      have := C.obj hk ho
      split at hN
      · rename_i hz; exact ro (by rw [e1]; exact this) (Nat.eq_of_beq_eq_true hz) hN
      · exact hN.elim
    · rename_i t' z xs ho
      split at hN
      case h_2 => exact hN.elim
      split at hN
      case h_2 => exact hN.elim
      rename_i hz
      have hz := Nat.eq_of_beq_eq_true hz
      have hlo : lo = none := by
        cases lo with
        | none => rfl
        | some y => simp [cOpdO] at h1
      subst hlo
      obtain ⟨l, h, ⟨⟨h4, h5⟩, hN⟩, hl, hh⟩ := lohi_ok C h1 h2 hN
      have hl0 : l = 0 := by
        rcases hl with ⟨_, _, e⟩ | ⟨j, e⟩
        · exact e
        · simp at e
      subst hl0
      obtain ⟨hs0, hxl, hob⟩ := C.obj hk ho
      have hgk : isGrow (getO hs k) := by rw [ho]; trivial
      have fin : ∀ {g' : Gh}, (execOp a.eval ⟨d, .slice t x none hi none, ty, pos, af, g⟩).run P w = .ok (.value g'.hd) w → (∃ A n c, g'.hd = .slice A n c) → Conc E (upd gs k g') Pr (kills k tm) (setO (killOs k hs) k (.grow t' z (xs.take h.toNat))) a w → Oper.wp P ⟨d, .slice t x none hi none, ty, pos, af, g⟩ a w K Q := by
        intro g' hr hg' C1
        have := Cz.own (gs := upd gs k g') (D := dom (setO (killOs k hs) k (.grow t' z (xs.take h.toNat)))) (Pr := Pr) (w := w) k (by
          have : lenO (setO (killOs k hs) k (.grow t' z (xs.take h.toNat))) = lenO hs := by rw [lenO_eq, setO_eq, List.length_set, ← lenO_eq, killOs_len]
          show k < _; rw [this]; exact hk) (by rw [upd_self]; exact hg')
        rw [upd_self] at this
        exact wp_val hr (hK _ _ hN _ _ _ _ (C1.put _ this))
      rcases hob with ⟨rfl, hhd⟩ | ⟨cap, hhd, hcap, c, fr, hc1, hfz, hoc, hcs, hpt⟩
      · have h0 : h = 0 := by simp at h5; omega
        subst h0
        have hr := run none 0 0 0 0 (e1.trans hhd) hl hh (Int.le_refl _) (Int.le_refl _) (Int.le_refl _)
        exact fin (g' := ⟨(gs k).blk, .slice none 0 0⟩) hr ⟨_, _, _, rfl⟩ (C.rebind hk hgk ⟨(gs k).blk, .slice none 0 0⟩ _ (fun _ _ _ => rfl) (Nat.le_refl _) rfl rfl rfl (fun l => absurd rfl l) ⟨hs0, fun r hr => by simp at hr, .inl ⟨rfl, rfl⟩⟩)
      · have hlk : live (gs k) (getO hs k) := by
          rw [ho]
          show (gs k).hd ≠ _
          rw [hhd]; simp
        have hr := run (some (at_ (gs k).blk 0)) xs.length cap 0 h (e1.trans hhd) hl hh (Int.le_refl _) h4 (by omega)
        have hr2 : (execOp a.eval ⟨d, .slice t x none hi none, ty, pos, af, g⟩).run P w = .ok (.value (.slice (some (at_ (gs k).blk 0)) h.toNat cap)) w := by
          rw [hr]
          simp [at_add]
        have htl : (xs.take h.toNat).length = h.toNat := by rw [List.length_take]; omega
        refine fin (g' := ⟨(gs k).blk, .slice (some (at_ (gs k).blk 0)) h.toNat cap⟩) hr2 ⟨_, _, _, rfl⟩ (C.rebind hk hgk _ _ (fun _ _ _ => rfl) (Nat.le_refl _) rfl rfl rfl (fun _ => .inl ⟨rfl, hlk⟩) ?_)
        refine ⟨hs0, fun row hr => hxl row (List.mem_of_mem_take hr), .inr ⟨cap, by rw [htl], by rw [htl]; omega, c, fr, hc1, hfz, hoc, hcs, fun p row j b u f1 f2 f3 => ?_⟩⟩
        rw [List.getElem?_take] at f1
        split at f1
        · exact hpt p row j b u f1 f2 f3
        · cases f1
    · exact hN.elim
  · rename_i k off len cap e
    rw [e] at hX
    obtain ⟨e1, hk⟩ := hX.sl_
    obtain ⟨l, h, ⟨⟨h3, h4, h5⟩, hN⟩, hl, hh⟩ := lohi_ok C h1 h2 hN
    refine fin_ hK C (run _ len cap l h e1 hl hh h3 h4 h5) ?_ hN
    have hoff : (if cap = l.toNat then some (at_ (gs k).blk off) else (some (at_ (gs k).blk off)).map (·.add (l.toNat * sz))) = some (at_ (gs k).blk (offAt lo' off l.toNat cap sz)) := by
      rcases hl with ⟨_, rfl, rfl⟩ | ⟨j, hj⟩
      · simp [offAt, at_add]
      · cases lo' with
        | none => 
          cases lo with
          | none => simp at hj
          | some y => simp [cOpdO] at h1
        | some y =>
          simp only [offAt]
          split <;> simp [at_add]
    rw [hoff]
    exact .sl _ _ _ _ hk
  · exact hN.elim
theorem S_capB {x : Operand} {x' : Opd} {ts : Array TypeId} {t0 e : TypeId} (ht : ts[0]? = some t0) (hu : P.underlying t0 = some (.slice e)) (hx : cOpd x = some x') (hN : NodeOK P rs post (opN NK d (.capB x') rest tm hs)) :
    Oper.wp P ⟨d, .call { callee := .builtin .cap, args := #[x], argTypes := ts }, ty, pos, af, g⟩ a w K Q := by
  have hX := C.opd hx
  simp only [opN] at hN
  have fin : ∀ {A n c}, a.eval x = .slice A n c → NodeOK P rs post (NK (putL tm d (.int .i64 c)) hs) → Oper.wp P ⟨d, .call { callee := .builtin .cap, args := #[x], argTypes := ts }, ty, pos, af, g⟩ a w K Q := by
    intro A n c e hN
    refine fin_ hK C (v := .int .i64 c) (run_builtin (l := [x]) ?_) (.lf (.int _ _)) hN
    simp [builtin, Builtin.cap_, ht, e, run_un hu, goInt]
  split at hN
  · rename_i e; rw [e] at hX; exact fin hX.nils hN
  · rename_i e; rw [e] at hX; exact fin hX.sl_.1 hN
  · exact hN.elim
theorem S_app0 {ts : Array TypeId} {t0 t1 e : TypeId} {kn : IntKind} {i : TypeInfo} {z : List AV} {x y : Operand} {x' y' : Opd} (h0 : ts = #[t0, t1]) (hu0 : P.underlying t0 = some (.slice e)) (hu1 : P.underlying t1 = some (.int kn))
    (hi : P.info? e = some i) (hz : zeroT P e = some z) (hzl : z.length = i.size) (hall : allVal z = true) (hs0 : 0 < i.size) (hb0 : 0 < i.bytes) (hx : cOpd x = some x') (hy : cOpd y = some y')
    (hN : NodeOK P rs post (opN NK d (.app0 e i.size i.bytes z x' y') rest tm hs)) : Oper.wp P ⟨d, .call { callee := .builtin .append, args := #[x, y], argTypes := ts }, ty, pos, af, g⟩ a w K Q := by
  have hX := C.opd hx
  have hY := C.opd hy
  simp only [opN] at hN
  split at hN
  case h_2 => exact hN.elim
  rename_i kk m e1 e2
  rw [e1] at hX; rw [e2] at hY
  obtain ⟨⟨g1, g2⟩, hN⟩ := hN
  obtain ⟨it, zv, hit, hzv, rfl, hzo⟩ := zeroT_ok hz
  rw [hi] at hit
  injection hit with hit
  subst hit
  have hzs : zv.cells.size = i.size := by simpa using hzl
  have hyv := hY.int
  have hm : m = (m.toNat : Int) := by omega
  have hb : m.toNat * i.bytes ≤ 140737488355328 := by
    have : ((m.toNat * i.bytes : Nat) : Int) = m * i.bytes := by rw [Int.natCast_mul]; rw [← hm]
    omega
  have hmb : m.toNat ≤ 140737488355328 := Nat.le_trans (Nat.le_mul_of_pos_right _ hb0) hb
  have hcapn : Builtin.nextslicecap (0 + m.toNat) 0 * i.bytes ≤ 281474976710656 := growslice_fits (by omega) (by rw [Nat.zero_add]; exact hb)
  have hr := Lib.run_append_grow_zeros (P := P) w t0 t1 ty e i zv kk kn hu0 hu1 hi hzv none 0 0 [] (run_firstCells_none w.drew i.size 0 0 0) m.toNat (by omega) hs0 (by omega) (by omega) (by omega) hcapn
  have hge : 0 + m.toNat ≤ grownCap w (0 + m.toNat) 0 e := grownCap_ge w _ 0 e
  have hsz1 : (Builtin.zeroCells zv.cells m.toNat).size = m.toNat * i.size := by rw [size_zeroCells, hzs]
  have zone : ∀ k, ∀ u ∈ (Builtin.zeroCells zv.cells k).toList, u.oneCell' = true := by
    intro k u hu
    have : Builtin.zeroCells zv.cells k = madeCells zv.cells (k * zv.cells.size) := rfl
    rw [this] at hu
    exact made_one hzo hzs hs0 u hu
  rw [Nat.zero_add] at hr hge
  have hrep : (List.replicate m.toNat (zv.cells.toList.map ofV)).length = m.toNat := List.length_replicate
  refine fin_grow hK C (o := ⟨d, .call { callee := .builtin .append, args := #[x, y], argTypes := ts }, ty, pos, af, g⟩) (n := 0) (cap := grownCap w m.toNat 0 e) (xs := List.replicate m.toNat (zv.cells.toList.map ofV)) hs0
    (w' := w.drew.alloc (.cells (([] : List Value).toArray ++ Builtin.zeroCells zv.cells m.toNat ++ Builtin.zeroCells zv.cells (grownCap w m.toNat 0 e - m.toNat)) e)) ?_ heap_new (fun b hb => heap_push hb) (by simp) rfl rfl rfl (.inl rfl) (fun v hv => ?_) (by rw [hrep]; exact hge) ?_ (fun r hr => ?_) (fun q row j b u f1 f2 f3 => ?_) hN
  · rw [hrep]
    refine run_builtin (l := [x, y]) ?_
    subst h0
    simp only [builtin, List.map_cons, List.map_nil, hX.nils, hyv, Sem.run_bind]
    rw [hm]
    rw [hr]
    simp only [Result.andThen_ok, Sem.run_pure]
    rfl
  · simp only [Array.toList_append, List.mem_append] at hv
    rcases hv with (hv | hv) | hv
    · simp at hv
    · exact zone _ v hv
    · exact zone _ v hv
  · have h7 : m.toNat * i.size + (grownCap w m.toNat 0 e - m.toNat) * i.size = grownCap w m.toNat 0 e * i.size := by rw [← Nat.add_mul]; congr 1; omega
    simp [size_zeroCells, hzs]
    exact h7
  · rw [(List.mem_replicate.1 hr).2]; exact hzl
  · have hq : q < m.toNat := by
      have := (List.getElem?_eq_some_iff.1 f1).1
      rwa [hrep] at this
    have hrow : row = zv.cells.toList.map ofV := by
      have := List.mem_of_getElem? f1
      exact (List.mem_replicate.1 this).2
    subst hrow
    have hj : j < i.size := by
      have := (List.getElem?_eq_some_iff.1 f2).1
      rwa [hzl] at this
    have h6 : (q + 1) * i.size ≤ m.toNat * i.size := Nat.mul_le_mul_right _ hq
    rw [Nat.add_mul] at h6
    have f4 : (Builtin.zeroCells zv.cells m.toNat)[q * i.size + j]? = some u := by
      rw [Array.getElem?_append_left (by simp [hsz1]; omega)] at f3
      simpa using f3
    have hq2 := made_get (z := zv.cells) (n := m.toNat * zv.cells.size) (q := q * i.size + j) (by rw [hzs]; exact hs0) (by rw [hzs]; omega)
    have f5 : (madeCells zv.cells (m.toNat * zv.cells.size))[q * i.size + j]? = some u := f4
    rw [hq2, hzs, Nat.mul_comm, Nat.mul_add_mod, Nat.mod_eq_of_lt hj] at f5
    rw [List.getElem?_map] at f2
    have f5 : zv.cells.toList[j]? = some u := by simpa using f5
    rw [f5] at f2
    injection f2 with f2
    subst f2
    exact Cz_val (gs := gs) (D := dom hs) (allVal_mem hall _ (List.mem_map.2 ⟨u, List.mem_of_getElem? f5, rfl⟩)) (Cz_ofV u)
end
end Go.Proofs.YtlnafekmiidpkaaDoor.S
