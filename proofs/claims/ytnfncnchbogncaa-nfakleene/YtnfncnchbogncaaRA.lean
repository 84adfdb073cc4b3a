/- Part of the proof by the abstract machine: no claim of its own. -/
import Derived.Test.YtnfncnchbogncaaA24
import Derived.Test.YtnfncnchbogncaaD0
set_option linter.unusedSimpArgs false
set_option linter.unusedVariables false
set_option linter.unnecessarySimpa false
set_option linter.unusedSectionVars false
section
/- Automata being laid, in the abstract heap. -/
set_option linter.unusedVariables false
namespace Go.Amb

/-! ### Heaps side by side -/
theorem get_new_ne {h : AHeap} {i : Nat} (o : AObj) (hi : i ≠ h.next) : (h.new o).get i = h.get i := by rw [AHeap.get_new, if_neg hi]
theorem get_new_lt {h : AHeap} {i : Nat} (o : AObj) (hi : i < h.next) : (h.new o).get i = h.get i := get_new_ne o (by omega)
theorem get_new_self (h : AHeap) (o : AObj) : (h.new o).get h.next = o := by rw [AHeap.get_new, if_pos rfl]
/-- What is there and not of the footprint stays as it is; the footprint grows by what is new. -/
structure Fr (h h' : AHeap) (fp fp' : List Nat) : Prop where
  next : h.next ≤ h'.next
  keep : ∀ i, i < h.next → i ∉ fp → h'.get i = h.get i
  sub : ∀ i ∈ fp', i ∈ fp ∨ (h.next ≤ i ∧ i < h'.next)
theorem Fr.refl (h : AHeap) (fp : List Nat) : Fr h h fp fp := ⟨Nat.le_refl _, fun _ _ _ => rfl, fun i hi => .inl hi⟩
theorem Fr.trans {h h' h'' : AHeap} {fp fp' fp'' : List Nat} (a : Fr h h' fp fp') (b : Fr h' h'' fp' fp'') : Fr h h'' fp fp'' := by
  refine ⟨Nat.le_trans a.next b.next, fun i hi hf => ?_, fun i hi => ?_⟩
  · rw [b.keep i (Nat.lt_of_lt_of_le hi a.next) (fun hp => by
      rcases a.sub i hp with h1 | h1
      · exact hf h1
      · omega)]
    exact a.keep i hi hf
  · rcases b.sub i hi with h1 | h1
    · rcases a.sub i h1 with h2 | h2
      · exact .inl h2
      · have := b.next; exact .inr ⟨h2.1, by omega⟩
    · have := a.next; exact .inr ⟨by omega, h1.2⟩
/-- A new object beside. -/
theorem Fr.new (h : AHeap) (o : AObj) (fp : List Nat) : Fr h (h.new o) fp fp := ⟨by simp, fun i hi _ => get_new_lt o hi, fun i hi => .inl hi⟩

theorem putL_one (v : Value) : ∀ (l : List Value) (o : Nat), o < l.length → putL l o [v] = l.set o v := by
  intro l
  induction l with
  | nil => intro o h; simp at h
  | cons x l ih =>
    intro o h
    cases o with
    | zero => rfl
    | succ o => simp only [putL, List.set_cons_succ]; rw [ih o (by simpa using h)]

/-! ### Lists of numbers of its own -/
def ints (l : List Int) : List Value := l.map I
@[simp] theorem length_ints (l : List Int) : (ints l).length = l.length := by simp [ints]
theorem ints_one (l : List Int) : (ints l).all AHeap.one? = true := by
  unfold ints
  rw [List.all_map]
  exact List.all_eq_true.2 fun x _ => rfl
def FreeRep (h : AHeap) (v : Value) (l : List Int) (fp : List Nat) : Prop :=
  (l = [] ∧ v = nilS ∧ fp = []) ∨ ∃ F, l ≠ [] ∧ v = S0 F 0 l.length l.length ∧ h.get F = .cells (ints l) 3 (some 1) false ∧ fp = [F]
theorem FreeRep.frame {h h' : AHeap} {v : Value} {l : List Int} {fp : List Nat} (H : FreeRep h v l fp) (k : ∀ i ∈ fp, h'.get i = h.get i) : FreeRep h' v l fp := by
  rcases H with H | ⟨F, h1, h2, h3, h4⟩
  · exact .inl H
  · exact .inr ⟨F, h1, h2, by rw [k F (by rw [h4]; simp)]; exact h3, h4⟩
/-- One more number behind. -/
theorem FreeRep.push {h : AHeap} {v : Value} {l : List Int} {fp : List Nat} (H : FreeRep h v l fp) (hfp : ∀ i ∈ fp, i < h.next) (x : Int) (hb : (l.length + 1) * 8 ≤ AHeap.most) :
    ∃ a n c h', v = .slice a n c ∧ eqV (.slice a n c) (.slice a n c) = true ∧ h.app 3 1 8 ⟨a, n, c⟩ 1 [I x] = some (⟨some ⟨h.next, 0, none⟩, l.length + 1, l.length + 1⟩, h') ∧ h'.next = h.next + 1 ∧
      FreeRep h' (S0 h.next 0 (l.length + 1) (l.length + 1)) (l ++ [x]) [h.next] ∧ (∀ i, i < h.next → i ∉ fp → h'.get i = h.get i) := by
  rcases H with ⟨rfl, rfl, rfl⟩ | ⟨F, h1, rfl, h3, rfl⟩
  · refine ⟨none, 0, 0, _, rfl, rfl, app_nil (by decide) (by simpa using hb) (by decide) (by decide), rfl, ?_, fun i hi _ => get_new_lt _ hi⟩
    exact .inr ⟨h.next, by simp, rfl, get_new_self _ _, rfl⟩
  · have hF : F < h.next := hfp F (by simp)
    refine ⟨_, _, _, _, rfl, by simp [eqV, eqV1, eqAddr], app_grown h3 (by simp) rfl (by decide) hb (by decide) (by decide), rfl, ?_, fun i hi hf => ?_⟩
    · refine .inr ⟨h.next, by simp, by simp, ?_, rfl⟩
      have : (h.set F .gone).next = h.next := rfl
      rw [← this, get_new_self]
      simp [ints]
    · have hne : i ≠ F := fun e => hf (by simp [e])
      rw [get_new_lt _ (show i < (h.set F .gone).next from hi), AHeap.get_set_ne _ _ hne]

def ClsRep (h : AHeap) (v : Value) (l : List Int) (fp : List Nat) : Prop :=
  (l = [] ∧ v = nilS ∧ fp = []) ∨ ∃ C opn, v = S0 C 0 l.length l.length ∧ h.get C = .cells (ints l) 3 opn false ∧ fp = [C]
theorem ClsRep.frame {h h' : AHeap} {v : Value} {l : List Int} {fp : List Nat} (H : ClsRep h v l fp) (k : ∀ i ∈ fp, h'.get i = h.get i) : ClsRep h' v l fp := by
  rcases H with H | ⟨F, o, h1, h2, h3⟩
  · exact .inl H
  · exact .inr ⟨F, o, h1, by rw [k F (by rw [h3]; simp)]; exact h2, h3⟩

/-! ### States -/
structure NS where
  edges : List (List Int × Int)
  free : List Int
def EdgesRep (h : AHeap) (v : Value) (es : List (List Int × Int)) (fp : List Nat) : Prop :=
  (es = [] ∧ v = nilS ∧ fp = []) ∨ ∃ cls to G vc fc, es = [(cls, to)] ∧ v = S0 G 0 1 1 ∧ h.get G = .cells [vc, I to] 106 none false ∧ ClsRep h vc cls fc ∧ fp = G :: fc
theorem EdgesRep.frame {h h' : AHeap} {v : Value} {l : List (List Int × Int)} {fp : List Nat} (H : EdgesRep h v l fp) (k : ∀ i ∈ fp, h'.get i = h.get i) : EdgesRep h' v l fp := by
  rcases H with H | ⟨cls, to, G, vc, fc, h1, h2, h3, h4, h5⟩
  · exact .inl H
  · exact .inr ⟨cls, to, G, vc, fc, h1, h2, by rw [k G (by rw [h5]; simp)]; exact h3, h4.frame fun i hi => k i (by rw [h5]; exact List.mem_cons_of_mem _ hi), h5⟩
def CellsRep (h : AHeap) : List Value → List NS → List Nat → Prop
  | [], [], fp => fp = []
  | ve :: vf :: cs, st :: sts, fp => ∃ fe ff fr, EdgesRep h ve st.edges fe ∧ FreeRep h vf st.free ff ∧ CellsRep h cs sts fr ∧ fp = fe ++ (ff ++ fr)
  | _, _, _ => False
theorem CellsRep.nil_inv {h : AHeap} {cs : List Value} {fp : List Nat} (H : CellsRep h cs [] fp) : cs = [] ∧ fp = [] := by
  match cs, H with
  | [], H => exact ⟨rfl, H⟩
  | [_], H => exact H.elim
  | _ :: _ :: _, H => exact H.elim
theorem CellsRep.frame {h h' : AHeap} : ∀ {sts : List NS} {cs : List Value} {fp : List Nat}, CellsRep h cs sts fp → (∀ i ∈ fp, h'.get i = h.get i) → CellsRep h' cs sts fp := by
  intro sts
  induction sts with
  | nil => intro cs fp H k; obtain ⟨rfl, rfl⟩ := H.nil_inv; rfl
  | cons st sts ih =>
    intro cs fp H k
    match cs, H with
    | ve :: vf :: cs, ⟨fe, ff, fr, h1, h2, h3, h4⟩ =>
      subst h4
      exact ⟨fe, ff, fr, h1.frame fun i hi => k i (by simp [hi]), h2.frame fun i hi => k i (by simp [hi]), ih h3 fun i hi => k i (by simp [hi]), rfl⟩
theorem CellsRep.length {h : AHeap} : ∀ {sts : List NS} {cs : List Value} {fp : List Nat}, CellsRep h cs sts fp → cs.length = sts.length * 2 := by
  intro sts
  induction sts with
  | nil => intro cs fp H; obtain ⟨rfl, rfl⟩ := H.nil_inv; rfl
  | cons st sts ih =>
    intro cs fp H
    match cs, H with
    | ve :: vf :: cs, ⟨fe, ff, fr, h1, h2, h3, h4⟩ => simp [ih h3]; omega
theorem CellsRep.push {h : AHeap} : ∀ {sts : List NS} {cs : List Value} {fp : List Nat}, CellsRep h cs sts fp → CellsRep h (cs ++ [nilS, nilS]) (sts ++ [⟨[], []⟩]) fp := by
  intro sts
  induction sts with
  | nil => intro cs fp H; obtain ⟨rfl, rfl⟩ := H.nil_inv; exact ⟨[], [], [], .inl ⟨rfl, rfl, rfl⟩, .inl ⟨rfl, rfl, rfl⟩, rfl, rfl⟩
  | cons st sts ih =>
    intro cs fp H
    match cs, H with
    | ve :: vf :: cs, ⟨fe, ff, fr, h1, h2, h3, h4⟩ => exact ⟨fe, ff, fr, h1, h2, ih h3, h4⟩
theorem CellsRep.one {h : AHeap} : ∀ {sts : List NS} {cs : List Value} {fp : List Nat}, CellsRep h cs sts fp → cs.all AHeap.one? = true := by
  intro sts
  induction sts with
  | nil => intro cs fp H; obtain ⟨rfl, rfl⟩ := H.nil_inv; rfl
  | cons st sts ih =>
    intro cs fp H
    match cs, H with
    | ve :: vf :: cs, ⟨fe, ff, fr, h1, h2, h3, h4⟩ =>
      have e1 : AHeap.one? ve = true := by rcases h1 with ⟨_, rfl, _⟩ | ⟨_, _, _, _, _, _, rfl, _⟩ <;> rfl
      have e2 : AHeap.one? vf = true := by rcases h2 with ⟨_, rfl, _⟩ | ⟨_, _, rfl, _⟩ <;> rfl
      simp [e1, e2, ih h3]

def setFree (sts : List NS) (s : Nat) (l : List Int) : List NS := match sts, s with
  | [], _ => []
  | st :: sts, 0 => ⟨st.edges, l⟩ :: sts
  | st :: sts, s + 1 => st :: setFree sts s l
def setEdges (sts : List NS) (s : Nat) (l : List (List Int × Int)) : List NS := match sts, s with
  | [], _ => []
  | st :: sts, 0 => ⟨l, st.free⟩ :: sts
  | st :: sts, s + 1 => st :: setEdges sts s l
theorem length_setFree (l : List Int) : ∀ (sts : List NS) (s : Nat), (setFree sts s l).length = sts.length := by
  intro sts
  induction sts with
  | nil => intro s; rfl
  | cons st sts ih => intro s; cases s with | zero => rfl | succ s => simp [setFree, ih]
theorem length_setEdges (l : List (List Int × Int)) : ∀ (sts : List NS) (s : Nat), (setEdges sts s l).length = sts.length := by
  intro sts
  induction sts with
  | nil => intro s; rfl
  | cons st sts ih => intro s; cases s with | zero => rfl | succ s => simp [setEdges, ih]

/-- A state's free list taken out, another put in. -/
theorem CellsRep.free {h : AHeap} : ∀ {sts : List NS} {cs : List Value} {fp : List Nat} {s : Nat} {st : NS}, CellsRep h cs sts fp → fp.Nodup → sts[s]? = some st →
    ∃ vf ff, cs[s * 2 + 1]? = some vf ∧ FreeRep h vf st.free ff ∧ (∀ i ∈ ff, i ∈ fp) ∧
      ∀ h' vf' l' ff', FreeRep h' vf' l' ff' → ff'.Nodup → (∀ i ∈ ff', i ∉ fp) → (∀ i ∈ fp, i ∉ ff → h'.get i = h.get i) →
        ∃ fp', CellsRep h' (cs.set (s * 2 + 1) vf') (setFree sts s l') fp' ∧ fp'.Nodup ∧ (∀ i ∈ fp', (i ∈ fp ∧ i ∉ ff) ∨ i ∈ ff') := by
  intro sts
  induction sts with
  | nil => intro cs fp s st _ _ e; simp at e
  | cons st0 sts ih =>
    intro cs fp s st H hn e
    match cs, H with
    | ve :: vf :: cs, ⟨fe, ff, fr, h1, h2, h3, h4⟩ =>
      subst h4
      obtain ⟨n1, n2, n3⟩ := List.nodup_append.1 hn
      obtain ⟨n4, n5, n6⟩ := List.nodup_append.1 n2
      cases s with
      | zero =>
        simp at e
        subst e
        refine ⟨vf, ff, rfl, h2, fun i hi => by simp [hi], fun h' vf' l' ff' H' nd dj keep => ?_⟩
        refine ⟨fe ++ (ff' ++ fr), ⟨fe, ff', fr, h1.frame fun i hi => keep i (by simp [hi]) (fun hf => n3 i hi i (by simp [hf]) rfl), H', h3.frame fun i hi => keep i (by simp [hi]) (fun hf => n6 i hf i hi rfl), rfl⟩, ?_, fun i hi => ?_⟩
        · refine List.nodup_append.2 ⟨n1, List.nodup_append.2 ⟨nd, n5, fun a ha b hb e => ?_⟩, fun a ha b hb e => ?_⟩
          · subst e; exact dj a ha (by simp [hb])
          · subst e
            rcases List.mem_append.1 hb with hb | hb
            · exact dj a hb (by simp [ha])
            · exact n3 a ha a (by simp [hb]) rfl
        · rcases List.mem_append.1 hi with hi | hi
          · exact .inl ⟨by simp [hi], fun hf => n3 i hi i (by simp [hf]) rfl⟩
          · rcases List.mem_append.1 hi with hi | hi
            · exact .inr hi
            · exact .inl ⟨by simp [hi], fun hf => n6 i hf i hi rfl⟩
      | succ s =>
        simp at e
        obtain ⟨vf1, ff1, g1, g2, g3, g4⟩ := ih h3 n5 e
        refine ⟨vf1, ff1, ?_, g2, fun i hi => by simp [g3 i hi], fun h' vf' l' ff' H' nd dj keep => ?_⟩
        · rw [show (s + 1) * 2 + 1 = (s * 2 + 1) + 1 + 1 by omega]; exact g1
        have dfe : ∀ i ∈ fe, i ∉ ff1 := fun i hi hf => n3 i hi i (by simp [g3 i hf]) rfl
        have dff : ∀ i ∈ ff, i ∉ ff1 := fun i hi hf => n6 i hi i (g3 i hf) rfl
        obtain ⟨fr', k1, k2, k3⟩ := g4 h' vf' l' ff' H' nd (fun i hi hf => dj i hi (by simp [hf])) (fun i hi hf => keep i (by simp [hi]) hf)
        refine ⟨fe ++ (ff ++ fr'), ?_, ?_, fun i hi => ?_⟩
        · rw [show (s + 1) * 2 + 1 = (s * 2 + 1) + 1 + 1 by omega]
          exact ⟨fe, ff, fr', h1.frame fun i hi => keep i (by simp [hi]) (dfe i hi), h2.frame fun i hi => keep i (by simp [hi]) (dff i hi), k1, rfl⟩
        · refine List.nodup_append.2 ⟨n1, List.nodup_append.2 ⟨n4, k2, fun a ha b hb e => ?_⟩, fun a ha b hb e => ?_⟩
          · subst e
            rcases k3 a hb with ⟨q, _⟩ | q
            · exact n6 a ha a q rfl
            · exact dj a q (by simp [ha])
          · subst e
            rcases List.mem_append.1 hb with hb | hb
            · exact n3 a ha a (by simp [hb]) rfl
            · rcases k3 a hb with ⟨q, _⟩ | q
              · exact n3 a ha a (by simp [q]) rfl
              · exact dj a q (by simp [ha])
        · rcases List.mem_append.1 hi with hi | hi
          · exact .inl ⟨by simp [hi], dfe i hi⟩
          · rcases List.mem_append.1 hi with hi | hi
            · exact .inl ⟨by simp [hi], dff i hi⟩
            · rcases k3 i hi with ⟨q1, q2⟩ | q
              · exact .inl ⟨by simp [q1], q2⟩
              · exact .inr q
/-- A state's edges, put in where there were none. -/
theorem CellsRep.edges {h : AHeap} : ∀ {sts : List NS} {cs : List Value} {fp : List Nat} {s : Nat} {st : NS}, CellsRep h cs sts fp → fp.Nodup → sts[s]? = some st → st.edges = [] →
      s * 2 < cs.length ∧ ∀ h' ve' l' fe', EdgesRep h' ve' l' fe' → fe'.Nodup → (∀ i ∈ fe', i ∉ fp) → (∀ i ∈ fp, h'.get i = h.get i) →
        ∃ fp', CellsRep h' (cs.set (s * 2) ve') (setEdges sts s l') fp' ∧ fp'.Nodup ∧ (∀ i ∈ fp', i ∈ fp ∨ i ∈ fe') := by
  intro sts
  induction sts with
  | nil => intro cs fp s st _ _ e; simp at e
  | cons st0 sts ih =>
    intro cs fp s st H hn e he
    match cs, H with
    | ve :: vf :: cs, ⟨fe, ff, fr, h1, h2, h3, h4⟩ =>
      subst h4
      obtain ⟨n1, n2, n3⟩ := List.nodup_append.1 hn
      obtain ⟨n4, n5, n6⟩ := List.nodup_append.1 n2
      cases s with
      | zero =>
        simp at e
        subst e
        have hfe : fe = [] := by
          rcases h1 with ⟨_, _, q⟩ | ⟨_, _, _, _, _, q, _⟩
          · exact q
          · rw [he] at q; cases q
        subst hfe
        refine ⟨by simp, fun h' ve' l' fe' H' nd dj keep => ⟨fe' ++ (ff ++ fr), ⟨fe', ff, fr, H', h2.frame fun i hi => keep i (by simp [hi]), h3.frame fun i hi => keep i (by simp [hi]), rfl⟩, ?_, fun i hi => ?_⟩⟩
        · exact List.nodup_append.2 ⟨nd, n2, fun a ha b hb e => dj a ha (by subst e; simpa using hb)⟩
        · rcases List.mem_append.1 hi with hi | hi
          · exact .inr hi
          · exact .inl (by simpa using hi)
      | succ s =>
        simp at e
        obtain ⟨g1, g4⟩ := ih h3 n5 e he
        refine ⟨by simp; omega, fun h' ve' l' fe' H' nd dj keep => ?_⟩
        obtain ⟨fr', k1, k2, k3⟩ := g4 h' ve' l' fe' H' nd (fun i hi hf => dj i hi (by simp [hf])) (fun i hi => keep i (by simp [hi]))
        refine ⟨fe ++ (ff ++ fr'), ?_, ?_, fun i hi => ?_⟩
        · rw [show (s + 1) * 2 = (s * 2) + 1 + 1 by omega]
          exact ⟨fe, ff, fr', h1.frame fun i hi => keep i (by simp [hi]), h2.frame fun i hi => keep i (by simp [hi]), k1, rfl⟩
        · refine List.nodup_append.2 ⟨n1, List.nodup_append.2 ⟨n4, k2, fun a ha b hb e => ?_⟩, fun a ha b hb e => ?_⟩
          · subst e
            rcases k3 a hb with q | q
            · exact n6 a ha a q rfl
            · exact dj a q (by simp [ha])
          · subst e
            rcases List.mem_append.1 hb with hb | hb
            · exact n3 a ha a (by simp [hb]) rfl
            · rcases k3 a hb with q | q
              · exact n3 a ha a (by simp [q]) rfl
              · exact dj a q (by simp [ha])
        · rcases List.mem_append.1 hi with hi | hi
          · exact .inl (by simp [hi])
          · rcases List.mem_append.1 hi with hi | hi
            · exact .inl (by simp [hi])
            · rcases k3 i hi with q1 | q
              · exact .inl (by simp [q1])
              · exact .inr q

def StsRep (h : AHeap) (v : Value) (sts : List NS) (fp : List Nat) : Prop :=
  (sts = [] ∧ v = nilS ∧ fp = []) ∨ ∃ S cs fc, sts ≠ [] ∧ v = S0 S 0 sts.length sts.length ∧ h.get S = .cells cs 102 (some 2) false ∧ CellsRep h cs sts fc ∧ fp = S :: fc
/-- What is laid so far: a box whose first cell is the slice of the states. -/
structure LayRep (h : AHeap) (Q : Nat) (T : TypeId) (rest : List Value) (sts : List NS) (fp : List Nat) : Prop where
  ex : ∃ v fs, h.get Q = .cells (v :: rest) T none false ∧ StsRep h v sts fs ∧ fp = Q :: fs
  nd : fp.Nodup
  lt : ∀ i ∈ fp, i < h.next
theorem StsRep.frame {h h' : AHeap} {v : Value} {l : List NS} {fp : List Nat} (H : StsRep h v l fp) (k : ∀ i ∈ fp, h'.get i = h.get i) : StsRep h' v l fp := by
  rcases H with H | ⟨S, cs, fc, h0, h1, h2, h3, h4⟩
  · exact .inl H
  · exact .inr ⟨S, cs, fc, h0, h1, by rw [k S (by rw [h4]; simp)]; exact h2, h3.frame fun i hi => k i (by rw [h4]; simp [hi]), h4⟩
theorem LayRep.frame {h h' : AHeap} {Q : Nat} {T : TypeId} {rest : List Value} {sts : List NS} {fp : List Nat} (H : LayRep h Q T rest sts fp) (k : ∀ i ∈ fp, h'.get i = h.get i) (hn : h.next ≤ h'.next) : LayRep h' Q T rest sts fp := by
  obtain ⟨v, fs, h1, h2, h3⟩ := H.ex
  exact ⟨⟨v, fs, by rw [k Q (by rw [h3]; simp)]; exact h1, h2.frame fun i hi => k i (by rw [h3]; simp [hi]), h3⟩, H.nd, fun i hi => Nat.lt_of_lt_of_le (H.lt i hi) hn⟩
theorem LayRep.new {h : AHeap} {Q : Nat} {T : TypeId} {rest : List Value} {sts : List NS} {fp : List Nat} (H : LayRep h Q T rest sts fp) (o : AObj) : LayRep (h.new o) Q T rest sts fp :=
  H.frame (fun i hi => get_new_lt o (H.lt i hi)) (by simp)
end Go.Amb
end

section
/- Automata being laid: one state more, one number more behind a state's list. -/
set_option linter.unusedVariables false
namespace Go.Amb

variable {h : AHeap} {Q : Nat} {T : TypeId} {rest : List Value} {sts : List NS} {fp : List Nat}

theorem app_new_next {h h2 : AHeap} {e sz bys : Nat} {s q : SL} {n : Nat} {vs : List Value} (e1 : h.app e sz bys s n vs = some (q, h2)) : True := trivial

theorem LayRep.push (H : LayRep h Q T rest sts fp) (hb : (sts.length + 1) * 48 ≤ AHeap.most) :
    ∃ a c h2, h.get Q = .cells (.slice a sts.length c :: rest) T none false ∧ h.app 102 2 48 ⟨a, sts.length, c⟩ 1 [nilS, nilS] = some (⟨some ⟨h.next, 0, none⟩, sts.length + 1, sts.length + 1⟩, h2) ∧
      h2.get Q = .cells (.slice a sts.length c :: rest) T none false ∧ h2.next = h.next + 1 ∧
      ∃ fp', LayRep (h2.set Q (.cells (S0 h.next 0 (sts.length + 1) (sts.length + 1) :: rest) T none false)) Q T rest (sts ++ [⟨[], []⟩]) fp' ∧
        Fr h (h2.set Q (.cells (S0 h.next 0 (sts.length + 1) (sts.length + 1) :: rest) T none false)) fp fp' := by
  obtain ⟨v, fs, hQ, hs, hf⟩ := H.ex
  have hQn : Q < h.next := H.lt Q (by rw [hf]; simp)
  have hnd := H.nd
  rw [hf] at hnd
  obtain ⟨n1, n2⟩ := List.nodup_cons.1 hnd
  rcases hs with ⟨rfl, rfl, rfl⟩ | ⟨S, cs, fc, h0, rfl, hS, hC, rfl⟩
  · refine ⟨none, 0, _, hQ, app_nil (by decide) (by simpa using hb) (by decide) (by decide), ?_, rfl, [Q, h.next], ⟨⟨_, [h.next], AHeap.get_set_same _ _ _, .inr ⟨h.next, [nilS, nilS], [], by simp, rfl, ?_, ?_, rfl⟩, rfl⟩, ?_, ?_⟩, ?_⟩
    · rw [get_new_lt _ hQn]; exact hQ
    · rw [AHeap.get_set_ne _ _ (by omega), get_new_self]
    · exact CellsRep.push (sts := []) (cs := []) (fp := []) rfl
    · simp; omega
    · intro i hi; simp at hi; rcases hi with rfl | rfl <;> simp <;> omega
    · refine ⟨by simp, fun i hi hf' => ?_, fun i hi => ?_⟩
      · have : i ≠ Q := fun e => hf' (by rw [hf]; simp [e])
        rw [AHeap.get_set_ne _ _ this, get_new_lt _ hi]
      · simp at hi
        rcases hi with rfl | rfl
        · exact .inl (by rw [hf]; simp)
        · exact .inr ⟨Nat.le_refl _, by simp⟩
  · have hSn : S < h.next := H.lt S (by rw [hf]; simp)
    have hne : Q ≠ S := fun e => n1 (by simp [e])
    obtain ⟨n3, n4⟩ := List.nodup_cons.1 n2
    have hlen := hC.length
    have hfc : ∀ i ∈ fc, i < h.next := fun i hi => H.lt i (by rw [hf]; simp [hi])
    have hin : ∀ i ∈ fc, i ≠ S ∧ i ≠ Q ∧ i < h.next := fun i hi => ⟨fun e => n3 (by rw [← e]; exact hi), fun e => n1 (by rw [← e]; simp [hi]), hfc i hi⟩
    have hkeep : ∀ i, i ≠ S → i ≠ Q → i < h.next → (((h.set S .gone).new (.cells (cs ++ [nilS, nilS]) 102 (some 2) false)).set Q (.cells (S0 h.next 0 (sts.length + 1) (sts.length + 1) :: rest) T none false)).get i = h.get i := by
      intro i h1 h2 h3
      rw [AHeap.get_set_ne _ _ h2, get_new_lt _ (show i < (h.set S .gone).next from h3), AHeap.get_set_ne _ _ h1]
    refine ⟨_, _, _, hQ, app_grown hS hlen.symm rfl (by decide) hb (by decide) (by decide), ?_, rfl, Q :: h.next :: fc, ⟨⟨_, h.next :: fc, AHeap.get_set_same _ _ _, .inr ⟨h.next, cs ++ [nilS, nilS], fc, by simp, by simp, ?_, ?_, rfl⟩, rfl⟩, ?_, ?_⟩, ?_⟩
    · rw [get_new_lt _ (show Q < (h.set S .gone).next from hQn), AHeap.get_set_ne _ _ hne]; exact hQ
    · rw [AHeap.get_set_ne _ _ (by omega)]
      exact get_new_self (h.set S .gone) _
    · exact (hC.frame fun i hi => hkeep i (hin i hi).1 (hin i hi).2.1 (hin i hi).2.2).push
    · refine List.nodup_cons.2 ⟨fun hm => ?_, List.nodup_cons.2 ⟨fun hm => ?_, n4⟩⟩
      · rcases List.mem_cons.1 hm with e | hm
        · omega
        · exact (hin Q hm).2.1 rfl
      · have := hfc _ hm; omega
    · intro i hi
      have hnx : (((h.set S .gone).new (.cells (cs ++ [nilS, nilS]) 102 (some 2) false)).set Q (.cells (S0 h.next 0 (sts.length + 1) (sts.length + 1) :: rest) T none false)).next = h.next + 1 := rfl
      rw [hnx]
      rcases List.mem_cons.1 hi with rfl | hi
      · omega
      · rcases List.mem_cons.1 hi with rfl | hi
        · omega
        · have := hfc i hi; omega
    · refine ⟨by show h.next ≤ h.next + 1; omega, fun i hi hf' => hkeep i (fun e => hf' (by rw [hf]; simp [e])) (fun e => hf' (by rw [hf]; simp [e])) hi, fun i hi => ?_⟩
      rcases List.mem_cons.1 hi with rfl | hi
      · exact .inl (by rw [hf]; simp)
      · rcases List.mem_cons.1 hi with rfl | hi
        · exact .inr ⟨Nat.le_refl _, by show h.next < h.next + 1; omega⟩
        · exact .inl (by rw [hf]; simp [hi])

theorem LayRep.free (H : LayRep h Q T rest sts fp) {s : Nat} {st : NS} (hs : sts[s]? = some st) (t : Int) (hb : (st.free.length + 1) * 8 ≤ AHeap.most) :
    ∃ S cs a c h2, h.get Q = .cells (S0 S 0 sts.length sts.length :: rest) T none false ∧ s < sts.length ∧ h.get S = .cells cs 102 (some 2) false ∧ cs[s * 2 + 1]? = some (.slice a st.free.length c) ∧ eqV (.slice a st.free.length c) (.slice a st.free.length c) = true ∧
      s * 2 + 1 < cs.length ∧ S < h.next ∧ Q < h.next ∧
      h.app 3 1 8 ⟨a, st.free.length, c⟩ 1 [I t] = some (⟨some ⟨h.next, 0, none⟩, st.free.length + 1, st.free.length + 1⟩, h2) ∧ h2.get Q = .cells (S0 S 0 sts.length sts.length :: rest) T none false ∧
      h2.get S = .cells cs 102 (some 2) false ∧ h2.next = h.next + 1 ∧
      ∃ fp', LayRep (h2.set S (.cells (cs.set (s * 2 + 1) (S0 h.next 0 (st.free.length + 1) (st.free.length + 1))) 102 (some 2) false)) Q T rest (setFree sts s (st.free ++ [t])) fp' ∧
        Fr h (h2.set S (.cells (cs.set (s * 2 + 1) (S0 h.next 0 (st.free.length + 1) (st.free.length + 1))) 102 (some 2) false)) fp fp' := by
  obtain ⟨v, fs, hQ, hss, hf⟩ := H.ex
  have hQn : Q < h.next := H.lt Q (by rw [hf]; simp)
  have hnd := H.nd
  rw [hf] at hnd
  obtain ⟨n1, n2⟩ := List.nodup_cons.1 hnd
  have hsl : s < sts.length := (List.getElem?_eq_some_iff.1 hs).1
  rcases hss with ⟨rfl, rfl, rfl⟩ | ⟨S, cs, fc, h0, rfl, hS, hC, rfl⟩
  · simp at hsl
  · have hSn : S < h.next := H.lt S (by rw [hf]; simp)
    have hne : Q ≠ S := fun e => n1 (by simp [e])
    obtain ⟨n3, n4⟩ := List.nodup_cons.1 n2
    have hlen := hC.length
    have hfc : ∀ i ∈ fc, i < h.next := fun i hi => H.lt i (by rw [hf]; simp [hi])
    obtain ⟨vf, ff, c1, c2, c3, c4⟩ := hC.free n4 hs
    obtain ⟨a, n, c, h2, rfl, ceq, c5, c6, c7, c8⟩ := c2.push (fun i hi => hfc i (c3 i hi)) t hb
    have hn : n = st.free.length := by
      rcases c2 with ⟨e1, e2, _⟩ | ⟨F, _, e2, _⟩
      · cases e2; rw [e1]; rfl
      · cases e2; rfl
    subst hn
    have hq2 : h2.get Q = h.get Q := c8 Q hQn fun hm => n1 (List.mem_cons_of_mem _ (c3 Q hm))
    have hs2 : h2.get S = h.get S := c8 S hSn fun hm => n3 (c3 S hm)
    generalize hh3 : h2.set S (.cells (cs.set (s * 2 + 1) (S0 h.next 0 (st.free.length + 1) (st.free.length + 1))) 102 (some 2) false) = h3
    have g3 : ∀ i, i ≠ S → h3.get i = h2.get i := fun i hi => by rw [← hh3, AHeap.get_set_ne _ _ hi]
    have hx : h3.next = h.next + 1 := by rw [← hh3]; exact c6
    have hSx : h.next ≠ S := by omega
    obtain ⟨fp', k1, k2, k3⟩ := c4 h3 (S0 h.next 0 (st.free.length + 1) (st.free.length + 1)) (st.free ++ [t]) [h.next]
      (c7.frame fun i hi => g3 i (by simp at hi; omega)) (by simp) (fun i hi hm => by simp at hi; subst hi; have := hfc _ hm; omega)
      (fun i hi hf' => by rw [g3 i (fun e => n3 (by rw [← e]; exact hi))]; exact c8 i (hfc i hi) hf')
    refine ⟨S, cs, a, c, h2, hQ, hsl, hS, c1, ceq, by omega, hSn, hQn, c5, by rw [hq2]; exact hQ, by rw [hs2]; exact hS, c6, Q :: S :: fp', ⟨⟨S0 S 0 sts.length sts.length, S :: fp', ?_, .inr ⟨S, cs.set (s * 2 + 1) (S0 h.next 0 (st.free.length + 1) (st.free.length + 1)), fp', ?_, ?_, ?_, by rw [hh3]; exact k1, rfl⟩, rfl⟩, ?_, ?_⟩, ?_⟩
    · rw [hh3, g3 Q hne, hq2]; exact hQ
    · intro e; have := length_setFree (st.free ++ [t]) sts s; rw [e] at this; simp at this; omega
    · rw [length_setFree]
    · rw [hh3, ← hh3]; exact AHeap.get_set_same _ _ _
    · refine List.nodup_cons.2 ⟨fun hm => ?_, List.nodup_cons.2 ⟨fun hm => ?_, k2⟩⟩
      · rcases List.mem_cons.1 hm with e | hm
        · exact hne e
        · rcases k3 Q hm with ⟨q, _⟩ | q
          · exact n1 (by simp [q])
          · simp at q; omega
      · rcases k3 S hm with ⟨q, _⟩ | q
        · exact n3 q
        · simp at q; omega
    · intro i hi
      rw [hh3, hx]
      rcases List.mem_cons.1 hi with rfl | hi
      · omega
      · rcases List.mem_cons.1 hi with rfl | hi
        · omega
        · rcases k3 i hi with ⟨q, _⟩ | q
          · have := hfc i q; omega
          · simp at q; omega
    · rw [hh3]
      refine ⟨by omega, fun i hi hf' => ?_, fun i hi => ?_⟩
      · rw [g3 i (fun e => hf' (by rw [hf]; simp [e]))]
        exact c8 i hi fun hm => hf' (by rw [hf]; simp [c3 i hm])
      · rcases List.mem_cons.1 hi with rfl | hi
        · exact .inl (by rw [hf]; simp)
        · rcases List.mem_cons.1 hi with rfl | hi
          · exact .inl (by rw [hf]; simp)
          · rcases k3 i hi with ⟨q, _⟩ | q
            · exact .inl (by rw [hf]; simp [q])
            · simp at q; exact .inr ⟨by omega, by omega⟩

/-- The edges of a state that has none: one. -/
theorem LayRep.edge (H : LayRep h Q T rest sts fp) {s : Nat} {st : NS} (hs : sts[s]? = some st) (he : st.edges = []) {h2 : AHeap} {ve : Value} {es : List (List Int × Int)} {fe : List Nat}
    (hE : EdgesRep h2 ve es fe) (nd : fe.Nodup) (hfe : ∀ i ∈ fe, h.next ≤ i ∧ i < h2.next) (hk : ∀ i, i < h.next → h2.get i = h.get i) (hn : h.next ≤ h2.next) :
    ∃ S cs, h.get Q = .cells (S0 S 0 sts.length sts.length :: rest) T none false ∧ s < sts.length ∧ h.get S = .cells cs 102 (some 2) false ∧ s * 2 < cs.length ∧ S < h.next ∧ Q < h.next ∧
      ∃ fp', LayRep (h2.set S (.cells (cs.set (s * 2) ve) 102 (some 2) false)) Q T rest (setEdges sts s es) fp' ∧ Fr h (h2.set S (.cells (cs.set (s * 2) ve) 102 (some 2) false)) fp fp' := by
  obtain ⟨v, fs, hQ, hss, hf⟩ := H.ex
  have hQn : Q < h.next := H.lt Q (by rw [hf]; simp)
  have hnd := H.nd
  rw [hf] at hnd
  obtain ⟨n1, n2⟩ := List.nodup_cons.1 hnd
  have hsl : s < sts.length := (List.getElem?_eq_some_iff.1 hs).1
  rcases hss with ⟨rfl, rfl, rfl⟩ | ⟨S, cs, fc, h0, rfl, hS, hC, rfl⟩
  · simp at hsl
  · have hSn : S < h.next := H.lt S (by rw [hf]; simp)
    have hne : Q ≠ S := fun e => n1 (by simp [e])
    obtain ⟨n3, n4⟩ := List.nodup_cons.1 n2
    have hfc : ∀ i ∈ fc, i < h.next := fun i hi => H.lt i (by rw [hf]; simp [hi])
    obtain ⟨c1, c4⟩ := hC.edges n4 hs he
    generalize hh3 : h2.set S (.cells (cs.set (s * 2) ve) 102 (some 2) false) = h3
    have g3 : ∀ i, i ≠ S → h3.get i = h2.get i := fun i hi => by rw [← hh3, AHeap.get_set_ne _ _ hi]
    have hx : h3.next = h2.next := by rw [← hh3]; rfl
    obtain ⟨fp', k1, k2, k3⟩ := c4 h3 ve es fe (hE.frame fun i hi => g3 i (by have := (hfe i hi).1; omega)) nd (fun i hi hm => by have := hfc i hm; have := (hfe i hi).1; omega)
      (fun i hi => by rw [g3 i (fun e => n3 (by rw [← e]; exact hi))]; exact hk i (hfc i hi))
    refine ⟨S, cs, hQ, hsl, hS, c1, hSn, hQn, Q :: S :: fp', ⟨⟨S0 S 0 sts.length sts.length, S :: fp', ?_, .inr ⟨S, cs.set (s * 2) ve, fp', ?_, ?_, ?_, by rw [hh3]; exact k1, rfl⟩, rfl⟩, ?_, ?_⟩, ?_⟩
    · rw [hh3, g3 Q hne, hk Q hQn]; exact hQ
    · intro e; have := length_setEdges es sts s; rw [e] at this; simp at this; omega
    · rw [length_setEdges]
    · rw [hh3, ← hh3]; exact AHeap.get_set_same _ _ _
    · refine List.nodup_cons.2 ⟨fun hm => ?_, List.nodup_cons.2 ⟨fun hm => ?_, k2⟩⟩
      · rcases List.mem_cons.1 hm with e | hm
        · exact hne e
        · rcases k3 Q hm with q | q
          · exact n1 (by simp [q])
          · have := (hfe Q q).1; omega
      · rcases k3 S hm with q | q
        · exact n3 q
        · have := (hfe S q).1; omega
    · intro i hi
      rw [hh3, hx]
      rcases List.mem_cons.1 hi with rfl | hi
      · omega
      · rcases List.mem_cons.1 hi with rfl | hi
        · omega
        · rcases k3 i hi with q | q
          · have := hfc i q; omega
          · exact (hfe i q).2
    · rw [hh3]
      refine ⟨by omega, fun i hi hf' => ?_, fun i hi => ?_⟩
      · rw [g3 i (fun e => hf' (by rw [hf]; simp [e]))]
        exact hk i hi
      · rcases List.mem_cons.1 hi with rfl | hi
        · exact .inl (by rw [hf]; simp)
        · rcases List.mem_cons.1 hi with rfl | hi
          · exact .inl (by rw [hf]; simp)
          · rcases k3 i hi with q | q
            · exact .inl (by rw [hf]; simp [q])
            · have := hfe i q; exact .inr ⟨this.1, by omega⟩
end Go.Amb
end

section
/- Automata being laid: the functions that do it. -/
set_option linter.unusedVariables false
set_option linter.unusedSimpArgs false
namespace Go.Amb
open Go.Proofs

theorem eqAddr_refl (i o : Nat) : eqAddr (some ⟨i, o, none⟩) (some ⟨i, o, none⟩) = true := by simp [eqAddr]
@[simp] theorem eqV_ptr (i o : Nat) : eqV (P0 i o) (P0 i o) = true := by simp [eqV, eqV1, eqAddr]
@[simp] theorem eqV_int (n : Int) : eqV (I n) (I n) = true := by simp [eqV, eqV1, ikEq]
@[simp] theorem eqV_slc (a : Option Addr) (l c : Nat) (h : ∀ x, a = some x → x.spot = none) : eqV (.slice a l c) (.slice a l c) = true := by
  cases a with
  | none => simp [eqV, eqV1, eqAddr]
  | some x => have := h x rfl; cases x; simp [eqV, eqV1, eqAddr]

theorem eqV_S0 (i o l c : Nat) : eqV (S0 i o l c) (S0 i o l c) = true := by simp [eqV, eqV1, eqAddr]
theorem fill1 (t : Int) : fillP [(0, 1, I t)] [.int .i64 0] = some [I t] := rfl
theorem hk1 (t : Int) (h' : AHeap) (n : Nat) (hn : h'.get n = .cells [I t] 3 none false) : hkB (some ([I t], 3)) (S0 n 0 1 1) h' = true := by
  simp [hkB, blkOf, hn, eqL1, eqV1, ikEq]
theorem src1 {h : AHeap} {n : Nat} (t : Int) (hn : h.get n = .cells [I t] 3 none false) : srcOf h 1 (S0 n 0 1 1) = some (1, [I t]) := by
  rw [srcOf_row hn (Nat.le_refl 1)]
  rfl

theorem ev57 (X : Call) (n : Nat) {h : AHeap} {Q : Nat} {rest : List Value} {sts : List NS} {fp : List Nat} (H : LayRep h Q 67 rest sts fp) {s : Nat} {st : NS} (hs : sts[s]? = some st) (t : Int) (hb : (st.free.length + 1) * 8 ≤ AHeap.most) :
    ∃ h' fp', evF EK X (n + 1) 57 [I s, I t, P0 Q 0] h = some (.ret (.tuple #[]) h') ∧ LayRep h' Q 67 rest (setFree sts s (st.free ++ [t])) fp' ∧ Fr h h' fp fp' := by
  obtain ⟨S, cs, a, c, h2, hQ, hsl, hS, hc1, hev, hcl, hSn, hQn, happ, hQ2, hS2, hn2, fp', k1, k2⟩ := (H.new (.cells [I t] 3 none false)).free hs t hb
  have hQl := H.lt Q (by obtain ⟨v, fs, _, _, e⟩ := H.ex; rw [e]; simp)
  have hQ0 : h.get Q = .cells (S0 S 0 sts.length sts.length :: rest) 67 none false := by rw [← hQ, get_new_lt _ hQl]
  have hSne : S ≠ h.next := by
    intro e
    rw [e, get_new_self] at hS
    cases hS
  have hS0 : h.get S = .cells cs 102 (some 2) false := by rw [← hS, get_new_ne _ hSne]
  refine ⟨_, fp', ?_, k1, (Fr.new h _ fp).trans k2⟩
  rw [evF_B _ _ _ _ _ _ (by kernel_rfl), g57_eq, g57]
  have hx : idx? (s : Int) sts.length = some s := idx?_nat hsl
  have hst : h2.st S (s * 2 + 1) [S0 (h.next + 1) 0 (st.free.length + 1) (st.free.length + 1)] = some (h2.set S (.cells (cs.set (s * 2 + 1) (S0 (h.next + 1) 0 (st.free.length + 1) (st.free.length + 1))) 102 (some 2) false)) := by
    rw [st_of hS2 (by simp; omega) rfl, putL_one _ _ _ hcl]
  simp only [st0_zero, st0_succ, cFieldAddr_ptr, cLoad1_ptr, ld1_eq, cell?_of hQ0, cell?_of hS0, cell?_of hQ, cell?_of hS, cell?_of hQ2, cell?_of hS2, Nat.zero_add, Nat.add_zero, List.getElem?_cons_zero, ob_some, asLK_slc, rety_eq, dr_ret, cIdxS_slice, hx, hc1,
    cBuildS_eq, fill1, hk_eq (hk1 t _ _ (get_new_self h _)), eqV_int, eqV_ptr, eqV_S0, rk_ret, hev, cAppend_eq, src1 t (get_new_self h _), happ, AHeap.next_new, cStore_ptr, Value.cells, List.length_cons, List.length_nil, hst, finS_normal, evResS_nil, retOf_nil]

theorem ev101 (X : Call) (n : Nat) {h : AHeap} {Q : Nat} {rest : List Value} {sts : List NS} {fp : List Nat} (H : LayRep h Q 110 rest sts fp) {s : Nat} {st : NS} (hs : sts[s]? = some st) (t : Int) (hb : (st.free.length + 1) * 8 ≤ AHeap.most) :
    ∃ h' fp', evF EK X (n + 1) 101 [P0 Q 0, I s, I t] h = some (.ret (.tuple #[]) h') ∧ LayRep h' Q 110 rest (setFree sts s (st.free ++ [t])) fp' ∧ Fr h h' fp fp' := by
  obtain ⟨S, cs, a, c, h2, hQ, hsl, hS, hc1, hev, hcl, hSn, hQn, happ, hQ2, hS2, hn2, fp', k1, k2⟩ := (H.new (.cells [I t] 3 none false)).free hs t hb
  have hQl := H.lt Q (by obtain ⟨v, fs, _, _, e⟩ := H.ex; rw [e]; simp)
  have hQ0 : h.get Q = .cells (S0 S 0 sts.length sts.length :: rest) 110 none false := by rw [← hQ, get_new_lt _ hQl]
  have hSne : S ≠ h.next := by
    intro e
    rw [e, get_new_self] at hS
    cases hS
  have hS0 : h.get S = .cells cs 102 (some 2) false := by rw [← hS, get_new_ne _ hSne]
  refine ⟨_, fp', ?_, k1, (Fr.new h _ fp).trans k2⟩
  rw [evF_B _ _ _ _ _ _ (by kernel_rfl), g101_eq, g101]
  have hx : idx? (s : Int) sts.length = some s := idx?_nat hsl
  have hst : h2.st S (s * 2 + 1) [S0 (h.next + 1) 0 (st.free.length + 1) (st.free.length + 1)] = some (h2.set S (.cells (cs.set (s * 2 + 1) (S0 (h.next + 1) 0 (st.free.length + 1) (st.free.length + 1))) 102 (some 2) false)) := by
    rw [st_of hS2 (by simp; omega) rfl, putL_one _ _ _ hcl]
  simp only [st0_zero, st0_succ, cFieldAddr_ptr, cNilCheck_ptr, cLoad1_ptr, ld1_eq, cell?_of hQ0, cell?_of hS0, cell?_of hQ, cell?_of hS, cell?_of hQ2, cell?_of hS2, Nat.zero_add, Nat.add_zero, List.getElem?_cons_zero, ob_some, asLK_slc, rety_eq, dr_ret, cIdxS_slice, hx, hc1,
    cBuildS_eq, fill1, hk_eq (hk1 t _ _ (get_new_self h _)), eqV_int, eqV_ptr, eqV_S0, rk_ret, hev, cAppend_eq, src1 t (get_new_self h _), happ, AHeap.next_new, cStore_ptr, Value.cells, List.length_cons, List.length_nil, hst, finS_normal, evResS_nil, retOf_nil]

theorem fillSt : fillP [(0, 2, .agg #[.slice none 0 0, .slice none 0 0])] [.slice none 0 0, .slice none 0 0] = some [nilS, nilS] := rfl
theorem srcSt {h : AHeap} {n : Nat} (hn : h.get n = .cells [nilS, nilS] 102 none false) : srcOf h 2 (S0 n 0 1 1) = some (1, [nilS, nilS]) := by
  rw [srcOf_row hn (Nat.le_refl 2)]
  rfl
theorem ev56 (X : Call) (n : Nat) {h : AHeap} {Q : Nat} {rest : List Value} {sts : List NS} {fp : List Nat} (H : LayRep h Q 67 rest sts fp) (hb : (sts.length + 1) * 48 ≤ AHeap.most) :
    ∃ h' fp', evF EK X (n + 1) 56 [P0 Q 0] h = some (.ret (I sts.length) h') ∧ LayRep h' Q 67 rest (sts ++ [⟨[], []⟩]) fp' ∧ Fr h h' fp fp' := by
  obtain ⟨a, c, h2, hQ, happ, hQ2, hn2, fp', k1, k2⟩ := (H.new (.cells [nilS, nilS] 102 none false)).push hb
  have hQl := H.lt Q (by obtain ⟨v, fs, _, _, e⟩ := H.ex; rw [e]; simp)
  have hQ0 : h.get Q = .cells (.slice a sts.length c :: rest) 67 none false := by rw [← hQ, get_new_lt _ hQl]
  refine ⟨_, fp', ?_, k1, (Fr.new h _ fp).trans k2⟩
  rw [evF_B _ _ _ _ _ _ (by kernel_rfl), g56_eq, g56]
  have hst : h2.st Q 0 [S0 (h.next + 1) 0 (sts.length + 1) (sts.length + 1)] = some (h2.set Q (.cells (S0 (h.next + 1) 0 (sts.length + 1) (sts.length + 1) :: rest) 67 none false)) := by
    rw [st_of hQ2 (by simp) rfl, putL_one _ _ _ (by simp)]
    rfl
  have hmost : (sts.length + 1) * 48 ≤ 70368744177664 := hb
  have hQ3 := AHeap.get_set_same h2 Q (.cells (S0 (h.next + 1) 0 (sts.length + 1) (sts.length + 1) :: rest) 67 none false)
  simp only [st0_zero, st0_succ, cFieldAddr_ptr, cNilCheck_ptr, cLoad1_ptr, ld1_eq, cell?_of hQ0, cell?_of hQ, cell?_of hQ2, cell?_of hQ3, Nat.zero_add, Nat.add_zero, List.getElem?_cons_zero, ob_some, asLK_slc, cBuild_nil, cBuildS_eq, fillSt, cAppend_eq,
    srcSt (get_new_self h _), happ, AHeap.next_new, cStore_ptr, Value.cells, List.length_cons, List.length_nil, hst, cLenS_eq, finS_ret, evResS_tmp, evResS_nil]
  rw [cBin_sub _ _ _ (by omega) (by omega)]
  simp only [updL_cons, if_true, finS_ret, evResS_tmp, evResS_nil, retOf_one]
  congr 3
  omega
theorem ev100 (X : Call) (n : Nat) {h : AHeap} {Q : Nat} {rest : List Value} {sts : List NS} {fp : List Nat} (H : LayRep h Q 110 rest sts fp) (hb : (sts.length + 1) * 48 ≤ AHeap.most) :
    ∃ h' fp', evF EK X (n + 1) 100 [P0 Q 0] h = some (.ret (I sts.length) h') ∧ LayRep h' Q 110 rest (sts ++ [⟨[], []⟩]) fp' ∧ Fr h h' fp fp' := by
  obtain ⟨a, c, h2, hQ, happ, hQ2, hn2, fp', k1, k2⟩ := (H.new (.cells [nilS, nilS] 102 none false)).push hb
  have hQl := H.lt Q (by obtain ⟨v, fs, _, _, e⟩ := H.ex; rw [e]; simp)
  have hQ0 : h.get Q = .cells (.slice a sts.length c :: rest) 110 none false := by rw [← hQ, get_new_lt _ hQl]
  refine ⟨_, fp', ?_, k1, (Fr.new h _ fp).trans k2⟩
  rw [evF_B _ _ _ _ _ _ (by kernel_rfl), g100_eq, g100]
  have hst : h2.st Q 0 [S0 (h.next + 1) 0 (sts.length + 1) (sts.length + 1)] = some (h2.set Q (.cells (S0 (h.next + 1) 0 (sts.length + 1) (sts.length + 1) :: rest) 110 none false)) := by
    rw [st_of hQ2 (by simp) rfl, putL_one _ _ _ (by simp)]
    rfl
  have hmost : (sts.length + 1) * 48 ≤ 70368744177664 := hb
  have hQ3 := AHeap.get_set_same h2 Q (.cells (S0 (h.next + 1) 0 (sts.length + 1) (sts.length + 1) :: rest) 110 none false)
  simp only [st0_zero, st0_succ, cFieldAddr_ptr, cNilCheck_ptr, cLoad1_ptr, ld1_eq, cell?_of hQ0, cell?_of hQ, cell?_of hQ2, cell?_of hQ3, Nat.zero_add, Nat.add_zero, List.getElem?_cons_zero, ob_some, asLK_slc, cBuild_nil, cBuildS_eq, fillSt, cAppend_eq,
    srcSt (get_new_self h _), happ, AHeap.next_new, cStore_ptr, Value.cells, List.length_cons, List.length_nil, hst, cLenS_eq, finS_ret, evResS_tmp, evResS_nil]
  rw [cBin_sub _ _ _ (by omega) (by omega)]
  simp only [updL_cons, if_true, finS_ret, evResS_tmp, evResS_nil, retOf_one]
  congr 3
  omega
end Go.Amb
end

section
/- Patterns as they come in: data, and where they lie. -/
set_option linter.unusedVariables false
namespace Go.Amb

inductive Pat where
  | mk (op : Int) (cls : List Int) (kids : List Pat)
def Pat.op : Pat → Int | .mk o _ _ => o
def Pat.cls : Pat → List Int | .mk _ c _ => c
def Pat.kids : Pat → List Pat | .mk _ _ k => k

abbrev top : Nat := 9223372036854775807
/-- A list of numbers that came in. -/
def IntsAt (N : Nat) (h : AHeap) (v : Value) (l : List Int) : Prop :=
  (l = [] ∧ v = nilS) ∨ ∃ i c e, v = S0 i 0 l.length c ∧ l.length ≤ c ∧ c ≤ top ∧ i < N ∧ h.get i = .cells (ints l) e none true
mutual
def PatAt (N : Nat) (h : AHeap) : Pat → Value → Value → Value → Prop
  | .mk op cs ks, a, b, c => a = I op ∧ IntsAt N h b cs ∧ ((ks = [] ∧ c = nilS) ∨ ∃ i cap e vs, c = S0 i 0 ks.length cap ∧ ks.length ≤ cap ∧ cap ≤ top ∧ i < N ∧ h.get i = .cells vs e none true ∧ PatsAt N h ks vs)
def PatsAt (N : Nat) (h : AHeap) : List Pat → List Value → Prop
  | [], vs => vs = []
  | p :: ps, vs => ∃ a b c rest, vs = a :: b :: c :: rest ∧ PatAt N h p a b c ∧ PatsAt N h ps rest
end
theorem IntsAt.frame {N : Nat} {h h' : AHeap} {v : Value} {l : List Int} (H : IntsAt N h v l) (k : ∀ i, i < N → h'.get i = h.get i) : IntsAt N h' v l := by
  rcases H with H | ⟨i, c, e, h1, h2, h3, h4, h5⟩
  · exact .inl H
  · exact .inr ⟨i, c, e, h1, h2, h3, h4, by rw [k i h4]; exact h5⟩
mutual
theorem PatAt.frame {N : Nat} {h h' : AHeap} (k : ∀ i, i < N → h'.get i = h.get i) : ∀ (p : Pat) {a b c : Value}, PatAt N h p a b c → PatAt N h' p a b c
  | .mk op cs ks, a, b, c, H => by
    unfold PatAt at H ⊢
    obtain ⟨h1, h2, h3⟩ := H
    refine ⟨h1, h2.frame k, ?_⟩
    rcases h3 with h3 | ⟨i, cap, e, vs, g1, g2, g3, g4, g5, g6⟩
    · exact .inl h3
    · exact .inr ⟨i, cap, e, vs, g1, g2, g3, g4, by rw [k i g4]; exact g5, PatsAt.frame k ks g6⟩
theorem PatsAt.frame {N : Nat} {h h' : AHeap} (k : ∀ i, i < N → h'.get i = h.get i) : ∀ (ps : List Pat) {vs : List Value}, PatsAt N h ps vs → PatsAt N h' ps vs
  | [], vs, H => by unfold PatsAt at H ⊢; exact H
  | p :: ps, vs, H => by
    unfold PatsAt at H ⊢
    obtain ⟨a, b, c, rest, h1, h2, h3⟩ := H
    exact ⟨a, b, c, rest, h1, PatAt.frame k p h2, PatsAt.frame k ps h3⟩
end
theorem PatsAt.length {N : Nat} {h : AHeap} : ∀ {ps : List Pat} {vs : List Value}, PatsAt N h ps vs → vs.length = ps.length * 3 := by
  intro ps
  induction ps with
  | nil => intro vs H; unfold PatsAt at H; subst H; rfl
  | cons p ps ih =>
    intro vs H
    unfold PatsAt at H
    obtain ⟨a, b, c, rest, rfl, _, h3⟩ := H
    simp [ih h3]
    omega
theorem PatsAt.at {N : Nat} {h : AHeap} : ∀ {ps : List Pat} {vs : List Value} {q : Nat} {p : Pat}, PatsAt N h ps vs → ps[q]? = some p → ∃ a b c, vs[q * 3]? = some a ∧ vs[q * 3 + 1]? = some b ∧ vs[q * 3 + 2]? = some c ∧ PatAt N h p a b c := by
  intro ps
  induction ps with
  | nil => intro vs q p _ e; simp at e
  | cons p0 ps ih =>
    intro vs q p H e
    unfold PatsAt at H
    obtain ⟨a, b, c, rest, rfl, h2, h3⟩ := H
    cases q with
    | zero => simp at e; subst e; exact ⟨a, b, c, rfl, rfl, rfl, h2⟩
    | succ q =>
      simp at e
      obtain ⟨a', b', c', g1, g2, g3, g4⟩ := ih h3 e
      refine ⟨a', b', c', ?_, ?_, ?_, g4⟩
      · rw [show (q + 1) * 3 = q * 3 + 1 + 1 + 1 by omega]; exact g1
      · rw [show (q + 1) * 3 + 1 = (q * 3 + 1) + 1 + 1 + 1 by omega]; exact g2
      · rw [show (q + 1) * 3 + 2 = (q * 3 + 2) + 1 + 1 + 1 by omega]; exact g3
/-- The parts of a pattern's value. -/
theorem PatAt.parts {N : Nat} {h : AHeap} {p : Pat} {a b c : Value} (H : PatAt N h p a b c) : a = I p.op ∧ IntsAt N h b p.cls ∧
    ((p.kids = [] ∧ c = nilS) ∨ ∃ i cap e vs, c = S0 i 0 p.kids.length cap ∧ p.kids.length ≤ cap ∧ cap ≤ top ∧ i < N ∧ h.get i = .cells vs e none true ∧ PatsAt N h p.kids vs) := by
  cases p with
  | mk op cs ks => unfold PatAt at H; exact H
/-- How a pattern's lists are read. -/
theorem IntsAt.slc {N : Nat} {h : AHeap} {v : Value} {l : List Int} (H : IntsAt N h v l) : ∃ a c, v = .slice a l.length c ∧ l.length ≤ top := by
  rcases H with ⟨rfl, rfl⟩ | ⟨i, c, e, rfl, h2, h3, _⟩
  · exact ⟨none, 0, rfl, Nat.zero_le _⟩
  · exact ⟨_, _, rfl, Nat.le_trans h2 h3⟩
/-- A number out of a list that came in. -/
theorem IntsAt.at {N : Nat} {h : AHeap} {v : Value} {l : List Int} (H : IntsAt N h v l) {q : Nat} {x : Int} (e : l[q]? = some x) : ∃ i c, v = S0 i 0 l.length c ∧ q < l.length ∧ i < N ∧ h.cell? i q = some (I x) := by
  rcases H with ⟨rfl, rfl⟩ | ⟨i, c, ty, rfl, h2, h3, h4, h5⟩
  · simp at e
  · refine ⟨i, c, rfl, (List.getElem?_eq_some_iff.1 e).1, h4, ?_⟩
    rw [cell?_of h5]
    simp [ints, e]
theorem PatAt.kidsSlc {N : Nat} {h : AHeap} {p : Pat} {a b c : Value} (H : PatAt N h p a b c) : ∃ ad cp, c = .slice ad p.kids.length cp ∧ p.kids.length ≤ top := by
  rcases H.parts.2.2 with ⟨h1, rfl⟩ | ⟨i, cap, e, vs, rfl, h2, h3, _⟩
  · exact ⟨none, 0, by rw [h1]; rfl, by rw [h1]; exact Nat.zero_le _⟩
  · exact ⟨_, _, rfl, Nat.le_trans h2 h3⟩
/-- A kid. -/
theorem PatAt.kid {N : Nat} {h : AHeap} {p : Pat} {a b c : Value} (H : PatAt N h p a b c) {q : Nat} {k : Pat} (e : p.kids[q]? = some k) :
    ∃ i cap x y z, c = S0 i 0 p.kids.length cap ∧ q < p.kids.length ∧ p.kids.length ≤ cap ∧ i < N ∧ PatAt N h k x y z ∧ x = I k.op ∧ (∃ a n c, y = .slice a n c) ∧ (∃ a n c, z = .slice a n c) ∧
      h.cell? i (q * 3) = some x ∧ h.cell? i (q * 3 + 1) = some y ∧ h.cell? i (q * 3 + 2) = some z := by
  rcases H.parts.2.2 with ⟨h1, _⟩ | ⟨i, cap, ty, vs, rfl, h2, h3, h4, h5, h6⟩
  · rw [h1] at e; simp at e
  · obtain ⟨x, y, z, g1, g2, g3, g4⟩ := h6.at e
    obtain ⟨_, _, p3, _⟩ := g4.parts.2.1.slc
    obtain ⟨_, _, p4, _⟩ := g4.kidsSlc
    refine ⟨i, cap, x, y, z, rfl, (List.getElem?_eq_some_iff.1 e).1, h2, h4, g4, g4.parts.1, ⟨_, _, _, p3⟩, ⟨_, _, _, p4⟩, ?_, ?_, ?_⟩ <;> rw [cell?_of h5] <;> assumption
/-- Of a kid all, at once. -/
theorem load_kid {R : Type} {h : AHeap} {i o : Nat} {x y z : Value} {n : Int} {f : List Value → Option R} (hx : x = I n) (hy : ∃ a n c, y = .slice a n c) (hz : ∃ a n c, z = .slice a n c)
    (h1 : h.cell? i o = some x) (h2 : h.cell? i (o + 1) = some y) (h3 : h.cell? i (o + 2) = some z) : h.ldL i [.int .i64, .slc, .slc] o f = f [x, y, z] := by
  obtain ⟨a, l, c, rfl⟩ := hy
  obtain ⟨a', l', c', rfl⟩ := hz
  subst hx
  simp only [ldL_cons, ldL_nil, ld1_eq, h1, ob_some, asLK_int, h2, asLK_slc]
  rw [show o + 1 + 1 = o + 2 from rfl, h3]
  simp only [ob_some, asLK_slc]
/-- A box with a pattern in it. -/
def BoxAt (h : AHeap) (b : Nat) (x y z : Value) : Prop := h.get b = .cells [x, y, z] 64 none false

mutual
def Pat.nodes : Pat → Nat
  | .mk _ _ ks => Pat.nodesL ks + 1
def Pat.nodesL : List Pat → Nat
  | [] => 0
  | p :: ps => p.nodes + Pat.nodesL ps
end
theorem Pat.nodes_eq (p : Pat) : p.nodes = Pat.nodesL p.kids + 1 := by cases p; simp only [Pat.nodes, Pat.kids]
theorem Pat.nodes_pos (p : Pat) : 0 < p.nodes := by rw [p.nodes_eq]; omega
theorem Pat.nodesL_ge : ∀ (ps : List Pat), ps.length ≤ Pat.nodesL ps := by
  intro ps
  induction ps with
  | nil => exact Nat.zero_le _
  | cons p ps ih => have := p.nodes_pos; simp only [Pat.nodesL, List.length_cons]; omega
theorem Pat.nodesL_at : ∀ {ps : List Pat} {q : Nat} {p : Pat}, ps[q]? = some p → p.nodes ≤ Pat.nodesL ps := by
  intro ps
  induction ps with
  | nil => intro q p e; simp at e
  | cons p0 ps ih =>
    intro q p e
    simp only [Pat.nodesL]
    cases q with
    | zero => simp at e; subst e; omega
    | succ q => simp at e; have := ih e; omega
end Go.Amb
end

section
/- A pattern's nodes: are their classes rising? -/
set_option linter.unusedVariables false
set_option linter.unusedSimpArgs false
namespace Go.Amb
open Go.Proofs

def prevOf (l : List Int) : Nat → Option Int
  | 0 => none
  | i + 1 => l[i]?
def risesGo (C : Int) : Option Int → List Int → Bool
  | _, [] => true
  | p, c :: r => decide (0 ≤ c) && decide (c < C) && (match p with | none => true | some p => decide (p < c)) && risesGo C (some c) r

theorem ev131_loop (call : Call) (lf : Nat) {N : Nat} {h : AHeap} {v : Value} {l : List Int} (H : IntsAt N h v l) (C : Int) (K : KS) {R0 R1 : Option Ans} (k0 : ∀ σ', σ' 4 = .bool false → K .ret σ' h = R0) (k1 : ∀ σ', K (.exit 0) σ' h = R1) :
    ∀ (m i n : Nat) (σ : St), l.length - i = m → i ≤ l.length → m < n → σ 0 = v → σ 7 = v → σ 8 = I l.length → σ 9 = I i → σ 1 = I C →
    loopS (g131_L1 call lf) n σ h K = if risesGo C (prevOf l i) (l.drop i) = true then R1 else R0 := by
  have hlen : l.length ≤ top := by obtain ⟨_, _, _, h⟩ := H.slc; exact h
  intro m
  induction m with
  | zero =>
    intro i n σ hm hi hn h0 h7 h8 h9 h1
    obtain ⟨n, rfl⟩ : ∃ q, n = q + 1 := ⟨n - 1, by omega⟩
    have hil : i = l.length := by omega
    subst hil
    rw [List.drop_length, loopS_succ, g131_L1]
    simp only [h8, h9, cBin_lss, Int.lt_irrefl, decide_false, cIf_eq, Bool.false_eq_true, if_false, loopK_exit, risesGo, if_true]
    exact k1 _
  | succ m ih =>
    intro i n σ hm hi hn h0 h7 h8 h9 h1
    obtain ⟨n, rfl⟩ : ∃ q, n = q + 1 := ⟨n - 1, by omega⟩
    have hil : i < l.length := by omega
    have hget : l[i]? = some l[i] := List.getElem?_eq_getElem hil
    rw [List.drop_eq_getElem_cons hil]
    generalize l[i] = x at *
    obtain ⟨b, c, rfl, _, _, hc⟩ := H.at hget
    have h1' : ((i : Int) < (l.length : Int)) := by omega
    rw [loopS_succ, g131_L1]
    simp only [h0, h7, h8, h9, h1, cBin_lss, h1', decide_true, cIf_eq, if_true, cIdxS_slice, idx?_nat hil, ob_some, Nat.zero_add, Nat.mul_one, cLoad1_ptr, ld1_eq, hc, asLK_int]
    by_cases c1 : x < 0
    · have : ¬ (0 ≤ x) := by omega
      simp only [c1, decide_true, gd_true, cPick_eq, if_true, gd_undef, g131_C2, updL_cons, updL_nil, ↓reduceIte, Nat.reduceEqDiff, cIf_eq, loopK_ret]
      simp only [risesGo, this, decide_false, Bool.false_and, Bool.false_eq_true, if_false]
      exact k0 _ rfl
    · have c1' : 0 ≤ x := by omega
      by_cases c2 : C ≤ x
      · have c2' : ¬ x < C := by omega
        simp only [c1, decide_false, gd_false, cBin_geq, h1, ge_iff_le, cPick_eq, Bool.false_eq_true, if_false, c2, decide_true, gd_true, gd_undef, if_true, g131_C2, updL_cons, updL_nil, ↓reduceIte, Nat.reduceEqDiff, cIf_eq, loopK_ret]
        simp only [risesGo, c2', decide_false, Bool.and_false, Bool.false_and, Bool.false_eq_true, if_false]
        exact k0 _ rfl
      · have c2' : x < C := by omega
        have htop : (l.length : Int) ≤ 9223372036854775807 := by have := hlen; unfold top at this; omega
        cases i with
        | zero =>
          simp only [c1, decide_false, gd_false, cBin_geq, h1, ge_iff_le, cPick_eq, Bool.false_eq_true, if_false, c2, cBin_gtr, Int.ofNat_zero, gt_iff_lt, Int.lt_irrefl, g131_C2, updL_cons, updL_nil, ↓reduceIte, Nat.reduceEqDiff, cIf_eq, h9]
          rw [cBin_add _ _ _ (by omega) (by omega)]
          simp only [loopK_normal]
          rw [ih 1 n _ (by omega) (by omega) (by omega) (by simp [updL_cons, h0]) (by simp [updL_cons, h7]) (by simp [updL_cons, h8]) (by simp [updL_cons]) (by simp [updL_cons, h1])]
          simp [risesGo, prevOf, c1', c2', hget]
        | succ i =>
          have hil' : i < l.length := by omega
          have hget' : l[i]? = some l[i] := List.getElem?_eq_getElem hil'
          generalize l[i] = y at *
          obtain ⟨b2, c2'', he, _, _, hc'⟩ := H.at hget'
          cases he
          have e1 : ((i + 1 : Nat) : Int) > 0 := by omega
          have e2 : ((i + 1 : Nat) : Int) - 1 = (i : Int) := by omega
          simp only [c1, decide_false, gd_false, cBin_geq, h1, ge_iff_le, cPick_eq, Bool.false_eq_true, if_false, c2, cBin_gtr, e1, decide_true, gd_true]
          rw [cBin_sub _ _ _ (by omega) (by omega), e2]
          simp only [cIdxS_slice, idx?_nat hil', ob_some, Nat.zero_add, Nat.mul_one, cLoad1_ptr, ld1_eq, hc', asLK_int, cBin_geq, ge_iff_le, cPick_eq, if_true, Bool.false_eq_true, if_false]
          by_cases c3 : x ≤ y
          · have c3' : ¬ y < x := by omega
            simp only [c3, decide_true, g131_C2, updL_cons, updL_nil, ↓reduceIte, Nat.reduceEqDiff, cIf_eq, if_true, loopK_ret]
            simp only [risesGo, prevOf, hget', c3', decide_false, Bool.and_false, Bool.false_and, Bool.false_eq_true, if_false]
            exact k0 _ rfl
          · have c3' : y < x := by omega
            simp only [c3, decide_false, g131_C2, updL_cons, updL_nil, ↓reduceIte, Nat.reduceEqDiff, cIf_eq, Bool.false_eq_true, if_false, h9, if_true]
            rw [cBin_add _ _ _ (by omega) (by omega)]
            simp only [loopK_normal]
            rw [ih (i + 1 + 1) n _ (by omega) (by omega) (by omega) (by simp [updL_cons, h0]) (by simp [updL_cons, h7]) (by simp [updL_cons, h8]) (by simp [updL_cons]) (by simp [updL_cons, h1])]
            simp [risesGo, prevOf, c1', c2', hget, hget', c3']

theorem ev131 (X : Call) (n : Nat) {N : Nat} {h : AHeap} {v : Value} {l : List Int} (H : IntsAt N h v l) (C : Int) (hn : l.length < n) :
    evF EK X (n + 1) 131 [v, I C] h = some (.ret (.bool (risesGo C none l)) h) := by
  rw [evF_B _ _ _ _ _ _ (by kernel_rfl), g131_eq, g131]
  obtain ⟨a, c, rfl, _⟩ := H.slc
  simp only [st0_zero, cLenS_eq]
  refine (ev131_loop (evF EK X n) n H C _ (R0 := some (.ret (.bool false) h)) (R1 := some (.ret (.bool true) h)) ?_ ?_ l.length 0 n _ (by omega) (by omega) hn (by rfl) (by rfl) (by rfl) (by rfl) (by rfl)).trans ?_
  · intro σ' e; simp [e]
  · intro σ'; simp [g131_C3, updL_cons]
  · simp only [List.drop_zero, prevOf]
    cases risesGo C none l <;> rfl
end Go.Amb
end

section
/- A pattern's nodes: is one of the right form? -/
set_option linter.unusedVariables false
set_option linter.unusedSimpArgs false
namespace Go.Amb
open Go.Proofs

def formOk (op : Int) (nk nc : Nat) : Bool :=
  (if op = 0 ∨ op = 1 then decide (nk = 0) else if op = 2 ∨ op = 3 then decide (2 ≤ nk) else if op = 4 ∨ op = 5 ∨ op = 6 then decide (nk = 1) else false) && (decide (op = 1) || decide (nc = 0))
def nodeF (C op : Int) (nk : Nat) (cs : List Int) : Int := if formOk op nk cs.length = true then (if risesGo C none cs = true then 0 else 51) else 53

theorem box_cells {h : AHeap} {a b c : Value} : h.get h.next = h.get h.next := rfl

theorem ev98 (X : Call) (n : Nat) {N : Nat} {h : AHeap} {p : Pat} {a b c : Value} (H : PatAt N h p a b c) (hN : N ≤ h.next) (C : Int) (hn : p.cls.length + 2 < n) :
    ∃ h', evF EK X (n + 1) 98 [.agg [a, b, c].toArray, I C] h = some (.ret (I (nodeF C p.op p.kids.length p.cls)) h') ∧ h.next ≤ h'.next ∧ ∀ i, i < h.next → h'.get i = h.get i := by
  obtain ⟨ha, hb, _⟩ := H.parts
  obtain ⟨ka, kc, rfl, hk⟩ := H.kidsSlc
  obtain ⟨ba, bc, hbe, hbl⟩ := hb.slc
  subst ha
  refine ⟨h.new (.cells [I p.op, b, .slice ka p.kids.length kc] 64 none false), ?_, by simp, fun i hi => get_new_lt _ hi⟩
  have hB := get_new_self h (.cells [I p.op, b, .slice ka p.kids.length kc] 64 none false)
  have hb' : IntsAt N (h.new (.cells [I p.op, b, .slice ka p.kids.length kc] 64 none false)) b p.cls := hb.frame fun i hi => get_new_lt _ (by omega)
  obtain ⟨n, rfl⟩ : ∃ q, n = q + 1 := ⟨n - 1, by omega⟩
  have h131 := ev131 X n hb' C (by omega)
  generalize hh : h.new (.cells [I p.op, b, .slice ka p.kids.length kc] 64 none false) = h1 at *
  have hL0 : h1.cell? h.next 0 = some (I p.op) := by rw [cell?_of hB]; rfl
  have hL1 : h1.cell? h.next 1 = some b := by rw [cell?_of hB]; rfl
  have hL2 : h1.cell? h.next 2 = some (.slice ka p.kids.length kc) := by rw [cell?_of hB]; rfl
  rw [evF_B _ _ _ _ _ _ (by kernel_rfl), g98_eq, g98]
  have tail : ∀ σ : St, σ 2 = P0 h.next 0 → σ 1 = I C → g98_C2 (evF EK X (n + 1)) (n + 1) σ h1 (finS EK [.tmp 4]) = some (.ret (I (if (decide (p.op = 1) || decide (p.cls.length = 0)) = true then (if risesGo C none p.cls = true then 0 else 51) else 53)) h1) := by
    intro σ h2 h1'
    rw [g98_C2]
    simp only [h2, cFieldAddr_ptr, Nat.zero_add, cLoad1_ptr, ld1_eq, hL0, hL1, ob_some, asLK_int, cBin_neq]
    have c3 : ∀ σ : St, σ 2 = P0 h.next 0 → σ 1 = I C → σ 35 = .bool false → g98_C3 (evF EK X (n + 1)) (n + 1) σ h1 (finS EK [.tmp 4]) = some (.ret (I (if risesGo C none p.cls = true then 0 else 51)) h1) := by
      intro σ h2 h1' h35
      rw [g98_C3]
      simp only [h2, h35, h1', cIf_eq, Bool.false_eq_true, ↓reduceIte, cFieldAddr_ptr, Nat.zero_add, cLoad1_ptr, ld1_eq, hL1, hbe, ob_some, asLK_slc]
      rw [← hbe, cCall_ret h131]
      simp only [asRetL_one, asTIL_one, asLK_bool, cUn_not, cIf_eq]
      cases risesGo C none p.cls <;> simp [updL_cons]
    by_cases e1 : p.op = 1
    · simp only [e1, decide_true, Bool.not_true, gd_false, cPick_eq, Bool.false_eq_true, ↓reduceIte, Bool.true_or]
      exact c3 _ (by simp [updL_cons, h2]) (by simp [updL_cons, h1']) (by simp [updL_cons])
    · simp only [e1, decide_false, Bool.not_false, gd_true, cLoad1_ptr, ld1_eq, hL1, hbe, ob_some, asLK_slc, cLenS_eq, cBin_gtr, cPick_eq, ↓reduceIte, Bool.false_or]
      by_cases e2 : p.cls.length = 0
      · have : ¬ ((p.cls.length : Int) > 0) := by omega
        simp only [this, e2, decide_false, decide_true, ↓reduceIte]
        exact c3 _ (by simp [updL_cons, h2]) (by simp [updL_cons, h1']) (by simp [updL_cons, e2])
      · have : ((p.cls.length : Int) > 0) := by omega
        simp only [this, e2, decide_true, decide_false, Bool.false_eq_true, ↓reduceIte]
        rw [g98_C3]
        simp [updL_cons]
  simp only [st0_zero, cNew_eq, Value.cells, List.toList_toArray, hh, cFieldAddr_ptr, Nat.zero_add, cLoad1_ptr, ld1_eq, hL2, hL0, ob_some, asLK_slc, asLK_int, cLenS_eq, cBin_eql, cIf_eq]
  unfold nodeF formOk
  have b1 : ∀ σ : St, σ 11 = .bool true → p.op = 0 ∨ p.op = 1 → σ 2 = P0 h.next 0 → σ 1 = I C → σ 5 = I p.kids.length → g98_C1 (evF EK X (n + 1)) (n + 1) σ h1 (finS EK [.tmp 4]) = some (.ret (I (if (decide (p.kids.length = 0) && (decide (p.op = 1) || decide (p.cls.length = 0))) = true then (if risesGo C none p.cls = true then 0 else 51) else 53)) h1) := by
    intro σ h11 hop h2 h1' h5
    rw [g98_C1]
    simp only [h11, cIf_eq, ↓reduceIte, h5, cBin_neq]
    by_cases e : p.kids.length = 0
    · have : ((p.kids.length : Int) = 0) := by omega
      simp only [this, e, decide_true, Bool.not_true, Bool.false_eq_true, ↓reduceIte, Bool.true_and]
      exact tail _ (by simp [updL_cons, h2]) (by simp [updL_cons, h1'])
    · have : ¬ ((p.kids.length : Int) = 0) := by omega
      simp [this, e, updL_cons]
  have b4 : ∀ σ : St, σ 16 = .bool true → σ 2 = P0 h.next 0 → σ 1 = I C → σ 5 = I p.kids.length → g98_C4 (evF EK X (n + 1)) (n + 1) σ h1 (finS EK [.tmp 4]) = some (.ret (I (if (decide (2 ≤ p.kids.length) && (decide (p.op = 1) || decide (p.cls.length = 0))) = true then (if risesGo C none p.cls = true then 0 else 51) else 53)) h1) := by
    intro σ h16 h2 h1' h5
    rw [g98_C4]
    simp only [h16, cIf_eq, ↓reduceIte, h5, cBin_lss]
    by_cases e : 2 ≤ p.kids.length
    · have : ¬ ((p.kids.length : Int) < 2) := by omega
      simp only [this, e, decide_true, decide_false, Bool.false_eq_true, ↓reduceIte, Bool.true_and]
      exact tail _ (by simp [updL_cons, h2]) (by simp [updL_cons, h1'])
    · have : ((p.kids.length : Int) < 2) := by omega
      simp [this, e, updL_cons]
  have b5 : ∀ σ : St, σ 21 = .bool true → σ 2 = P0 h.next 0 → σ 1 = I C → σ 5 = I p.kids.length → g98_C5 (evF EK X (n + 1)) (n + 1) σ h1 (finS EK [.tmp 4]) = some (.ret (I (if (decide (p.kids.length = 1) && (decide (p.op = 1) || decide (p.cls.length = 0))) = true then (if risesGo C none p.cls = true then 0 else 51) else 53)) h1) := by
    intro σ h16 h2 h1' h5
    rw [g98_C5]
    simp only [h16, cIf_eq, ↓reduceIte, h5, cBin_neq]
    by_cases e : p.kids.length = 1
    · have : ((p.kids.length : Int) = 1) := by omega
      simp only [this, e, decide_true, Bool.not_true, Bool.false_eq_true, ↓reduceIte, Bool.true_and]
      exact tail _ (by simp [updL_cons, h2]) (by simp [updL_cons, h1'])
    · have : ¬ ((p.kids.length : Int) = 1) := by omega
      simp [this, e, updL_cons]
  by_cases e0 : p.op = 0
  · simp only [e0, decide_true, ↓reduceIte, true_or]
    rw [b1 _ (by simp [updL_cons]) (.inl e0) (by simp [updL_cons]) (by simp [updL_cons]) (by simp [updL_cons])]
    simp [e0]
  · simp only [e0, decide_false, Bool.false_eq_true, ↓reduceIte, false_or]
    by_cases e1 : p.op = 1
    · simp only [e1, decide_true, ↓reduceIte]
      rw [b1 _ (by simp [updL_cons]) (.inr e1) (by simp [updL_cons]) (by simp [updL_cons]) (by simp [updL_cons])]
      simp [e1]
    · simp only [e1, decide_false, ↓reduceIte]
      rw [g98_C1]
      simp only [updL_cons, updL_nil, ↓reduceIte, Nat.reduceEqDiff, cIf_eq, Bool.false_eq_true, cBin_eql]
      by_cases e2 : p.op = 2
      · simp only [e2, decide_true, ↓reduceIte, true_or]
        rw [b4 _ (by simp [updL_cons]) (by simp [updL_cons]) (by simp [updL_cons]) (by simp [updL_cons])]
        simp [e2]
      · simp only [e2, decide_false, Bool.false_eq_true, ↓reduceIte, false_or]
        by_cases e3 : p.op = 3
        · simp only [e3, decide_true, ↓reduceIte]
          rw [b4 _ (by simp [updL_cons]) (by simp [updL_cons]) (by simp [updL_cons]) (by simp [updL_cons])]
          simp [e3]
        · simp only [e3, decide_false, ↓reduceIte]
          rw [g98_C4]
          simp only [updL_cons, updL_nil, ↓reduceIte, Nat.reduceEqDiff, cIf_eq, Bool.false_eq_true, cBin_eql]
          by_cases e4 : p.op = 4
          · simp only [e4, decide_true, ↓reduceIte, true_or]
            rw [b5 _ (by simp [updL_cons]) (by simp [updL_cons]) (by simp [updL_cons]) (by simp [updL_cons])]
            simp [e4]
          · simp only [e4, decide_false, Bool.false_eq_true, ↓reduceIte, false_or]
            by_cases e5 : p.op = 5
            · simp only [e5, decide_true, ↓reduceIte, true_or]
              rw [b5 _ (by simp [updL_cons]) (by simp [updL_cons]) (by simp [updL_cons]) (by simp [updL_cons])]
              simp [e5]
            · simp only [e5, decide_false, Bool.false_eq_true, ↓reduceIte, false_or]
              by_cases e6 : p.op = 6
              · simp only [e6, decide_true, ↓reduceIte]
                rw [b5 _ (by simp [updL_cons]) (by simp [updL_cons]) (by simp [updL_cons]) (by simp [updL_cons])]
                simp [e6]
              · simp only [e6, decide_false, ↓reduceIte]
                rw [g98_C5]
                simp [updL_cons]
end Go.Amb
end

section
/- A pattern's nodes, as the document's answer has them. -/
set_option linter.unusedVariables false
set_option linter.unusedSimpArgs false
namespace Go.Amb
open Go.Proofs

theorem ev132_loop (call : Call) (lf : Nat) {N : Nat} {h : AHeap} {v kk : Value} {l : List Int} {b : Nat} {op : Int} (H : IntsAt N h v l) (hB : h.get b = .cells [I op, v, kk] 64 none false) (C : Int) (K : KS) {R0 R1 : Option Ans} (k0 : ∀ σ', σ' 4 = .int .i64 51 → K .ret σ' h = R0) (k1 : ∀ σ', K (.exit 0) σ' h = R1) :
    ∀ (m i n : Nat) (σ : St), l.length - i = m → i ≤ l.length → m < n → σ 2 = P0 b 0 → σ 7 = I i → σ 1 = I C →
    loopS (g132_L15 call lf) n σ h K = if risesGo C (prevOf l i) (l.drop i) = true then R1 else R0 := by
  obtain ⟨va, vc, hv, hlen⟩ := H.slc
  have htop : (l.length : Int) ≤ 9223372036854775807 := by unfold top at hlen; omega
  have hL1 : h.cell? b 1 = some v := by rw [cell?_of hB]; rfl
  intro m
  induction m with
  | zero =>
    intro i n σ hm hi hn h2 h7 h1
    obtain ⟨n, rfl⟩ : ∃ q, n = q + 1 := ⟨n - 1, by omega⟩
    have hil : i = l.length := by omega
    subst hil
    rw [List.drop_length, loopS_succ, g132_L15]
    simp only [h2, h7, cFieldAddr_ptr, Nat.zero_add, cLoad1_ptr, ld1_eq, hL1, hv, ob_some, asLK_slc, cLenS_eq, cBin_lss, Int.lt_irrefl, decide_false]
    rw [g132_C16]
    simp only [updL_cons, updL_nil, ↓reduceIte, Nat.reduceEqDiff, cIf_eq, Bool.false_eq_true, loopK_exit, risesGo]
    exact k1 _
  | succ m ih =>
    intro i n σ hm hi hn h2 h7 h1
    obtain ⟨n, rfl⟩ : ∃ q, n = q + 1 := ⟨n - 1, by omega⟩
    have hil : i < l.length := by omega
    have hget : l[i]? = some l[i] := List.getElem?_eq_getElem hil
    rw [List.drop_eq_getElem_cons hil]
    generalize l[i] = x at *
    obtain ⟨bb, c, he, _, _, hc⟩ := H.at hget
    rw [hv] at he
    cases he
    have h1' : ((i : Int) < (l.length : Int)) := by omega
    rw [loopS_succ, g132_L15]
    simp only [h2, h7, cFieldAddr_ptr, Nat.zero_add, cLoad1_ptr, ld1_eq, hL1, hv, ob_some, asLK_slc, cLenS_eq, cBin_lss, h1', decide_true]
    rw [g132_C16]
    simp only [updL_cons, updL_nil, ↓reduceIte, Nat.reduceEqDiff, cIf_eq]
    rw [g132_C17]
    simp only [updL_cons, updL_nil, ↓reduceIte, Nat.reduceEqDiff, h2, h7, h1, cFieldAddr_ptr, Nat.zero_add, Nat.mul_one, cLoad1_ptr, ld1_eq, hL1, hv, ob_some, asLK_slc, rety_eq, dr_ret, cIdxS_slice, idx?_nat hil, hc, asLK_int, cBin_lss]
    by_cases c1 : x < 0
    · have : ¬ (0 ≤ x) := by omega
      simp only [c1, decide_true, gd_true, cPick_eq, ↓reduceIte, gd_undef, rety_eq, dr_ret, g132_C18, g132_C19, updL_cons, cIf_eq, loopK_ret]
      simp only [risesGo, this, decide_false, Bool.false_and, Bool.false_eq_true, if_false]
      exact k0 _ rfl
    · have c1' : 0 ≤ x := by omega
      by_cases c2 : C ≤ x
      · have c2' : ¬ x < C := by omega
        simp only [c1, decide_false, gd_false, updL_cons, updL_nil, ↓reduceIte, Nat.reduceEqDiff, h2, h7, h1, cFieldAddr_ptr, Nat.zero_add, Nat.mul_one, cLoad1_ptr, ld1_eq, hL1, hv, ob_some, asLK_slc, rety_eq, dr_ret, cIdxS_slice, idx?_nat hil, hc, asLK_int, cBin_geq, ge_iff_le, cPick_eq, Bool.false_eq_true, c2, decide_true, gd_true, gd_undef, g132_C18, g132_C19, cIf_eq, loopK_ret]
        simp only [risesGo, c2', decide_false, Bool.and_false, Bool.false_and, Bool.false_eq_true, if_false]
        exact k0 _ rfl
      · have c2' : x < C := by omega
        cases i with
        | zero =>
          simp only [c1, decide_false, gd_false, updL_cons, updL_nil, ↓reduceIte, Nat.reduceEqDiff, h2, h7, h1, cFieldAddr_ptr, Nat.zero_add, Nat.mul_one, cLoad1_ptr, ld1_eq, hL1, hv, ob_some, asLK_slc, rety_eq, dr_ret, cIdxS_slice, idx?_nat hil, hc, asLK_int, cBin_geq, ge_iff_le, cPick_eq, Bool.false_eq_true, c2, cBin_gtr, Int.ofNat_zero, gt_iff_lt, Int.lt_irrefl, g132_C18, cIf_eq, g132_C20]
          rw [cBin_add _ _ _ (by omega) (by omega)]
          simp only [loopK_normal]
          rw [ih 1 n _ (by omega) (by omega) (by omega) (by simp [updL_cons, h2]) (by simp [updL_cons]) (by simp [updL_cons, h1])]
          simp [risesGo, prevOf, c1', c2', hget]
        | succ i =>
          have hil' : i < l.length := by omega
          have hget' : l[i]? = some l[i] := List.getElem?_eq_getElem hil'
          generalize l[i] = y at *
          obtain ⟨b2, c2'', he, _, _, hc'⟩ := H.at hget'
          rw [hv] at he
          cases he
          have e1 : ((i + 1 : Nat) : Int) > 0 := by omega
          have e2 : ((i + 1 : Nat) : Int) - 1 = (i : Int) := by omega
          have sub : ∀ f : K1, cBin EK .sub 3 (I ((i + 1 : Nat) : Int)) (I 1) f = f (I i) := fun f => by rw [cBin_sub _ _ _ (by omega) (by omega), e2]
          simp only [c1, decide_false, gd_false, updL_cons, updL_nil, ↓reduceIte, Nat.reduceEqDiff, h2, h7, h1, cFieldAddr_ptr, Nat.zero_add, Nat.mul_one, cLoad1_ptr, ld1_eq, hL1, hv, ob_some, asLK_slc, rety_eq, dr_ret, cIdxS_slice, idx?_nat hil, hc, asLK_int, cBin_geq, ge_iff_le, cPick_eq, Bool.false_eq_true, c2, cBin_gtr, e1, decide_true, gd_true, sub, idx?_nat hil', hc', cBin_leq]
          by_cases c3 : x ≤ y
          · have c3' : ¬ y < x := by omega
            simp only [c3, decide_true, g132_C18, g132_C19, updL_cons, updL_nil, ↓reduceIte, Nat.reduceEqDiff, cIf_eq, loopK_ret]
            simp only [risesGo, prevOf, hget', c3', decide_false, Bool.and_false, Bool.false_and, Bool.false_eq_true, if_false]
            exact k0 _ rfl
          · have c3' : y < x := by omega
            simp only [c3, decide_false, g132_C18, g132_C20, updL_cons, updL_nil, ↓reduceIte, Nat.reduceEqDiff, cIf_eq, Bool.false_eq_true, h7]
            rw [cBin_add _ _ _ (by omega) (by omega)]
            simp only [loopK_normal]
            rw [ih (i + 1 + 1) n _ (by omega) (by omega) (by omega) (by simp [updL_cons, h2]) (by simp [updL_cons]) (by simp [updL_cons, h1])]
            simp [risesGo, prevOf, c1', c2', hget, hget', c3']

theorem ev132 (X : Call) (n : Nat) {N : Nat} {h : AHeap} {p : Pat} {a b c : Value} (H : PatAt N h p a b c) (hN : N ≤ h.next) (C : Int) (hn : p.cls.length + 2 < n) :
    ∃ h', evF EK X (n + 1) 132 [.agg [a, b, c].toArray, I C] h = some (.ret (I (nodeF C p.op p.kids.length p.cls)) h') ∧ h.next ≤ h'.next ∧ ∀ i, i < h.next → h'.get i = h.get i := by
  obtain ⟨ha, hb, _⟩ := H.parts
  obtain ⟨ka, kc, rfl, hk⟩ := H.kidsSlc
  obtain ⟨ba, bc, hbe, hbl⟩ := hb.slc
  subst ha
  refine ⟨h.new (.cells [I p.op, b, .slice ka p.kids.length kc] 64 none false), ?_, by simp, fun i hi => get_new_lt _ hi⟩
  have hB := get_new_self h (.cells [I p.op, b, .slice ka p.kids.length kc] 64 none false)
  have hb' : IntsAt N (h.new (.cells [I p.op, b, .slice ka p.kids.length kc] 64 none false)) b p.cls := hb.frame fun i hi => get_new_lt _ (by omega)
  rw [evF_B _ _ _ _ _ _ (by kernel_rfl), g132_eq, g132]
  simp only [st0_zero, cNew_eq, Value.cells, List.toList_toArray]
  generalize hh : h.new (.cells [I p.op, b, .slice ka p.kids.length kc] 64 none false) = h1 at *
  have hL0 : h1.cell? h.next 0 = some (I p.op) := by rw [cell?_of hB]; rfl
  have hL1 : h1.cell? h.next 1 = some b := by rw [cell?_of hB]; rfl
  have hL2 : h1.cell? h.next 2 = some (.slice ka p.kids.length kc) := by rw [cell?_of hB]; rfl
  generalize hcall : evF EK X n = call
  -- behind the form
  have c10 : ∀ (σ : St) (t : Bool), σ 2 = P0 h.next 0 → σ 1 = I C → σ 6 = .bool t → g132_C10 call n σ h1 (finS EK [.tmp 4]) = some (.ret (I (if t = true then (if risesGo C none p.cls = true then 0 else 51) else 53)) h1) := by
    intro σ t h2 h1' h6
    rw [g132_C10]
    simp only [h6, cUn_not, g132_C11, updL_cons, updL_nil, ↓reduceIte, cIf_eq]
    cases t with
    | false => simp [g132_C12, updL_cons]
    | true =>
      simp only [Bool.not_true, Bool.false_eq_true, ↓reduceIte, g132_C13, g132_C14]
      refine (ev132_loop call n hb' hB C _ (R0 := some (.ret (I 51) h1)) (R1 := some (.ret (I 0) h1)) ?_ ?_ p.cls.length 0 n _ (by omega) (by omega) (by omega) (by simp [updL_cons, h2]) (by simp [updL_cons]) (by simp [updL_cons, h1'])).trans ?_
      · intro σ' e; simp [e]
      · intro σ'; simp [g132_C21, g132_C22, updL_cons]
      · simp only [List.drop_zero, prevOf]
        cases risesGo C none p.cls <;> rfl
  have c4 : ∀ (σ : St), σ 2 = P0 h.next 0 → σ 1 = I C → g132_C4 call n σ h1 (finS EK [.tmp 4]) =
      some (.ret (I (if (if p.op = 2 ∨ p.op = 3 then decide (2 ≤ p.kids.length) else if p.op = 0 ∨ p.op = 1 then decide (p.kids.length = 0) else decide (p.kids.length = 1)) = true then (if risesGo C none p.cls = true then 0 else 51) else 53)) h1) := by
    intro σ h2 h1'
    rw [g132_C4]
    simp only [h2, cFieldAddr_ptr, Nat.zero_add, cLoad1_ptr, ld1_eq, hL2, ob_some, asLK_slc, cLenS_eq, g132_C5, updL_cons, updL_nil, ↓reduceIte, Nat.reduceEqDiff, cBin_eql]
    have e1 : decide ((p.kids.length : Int) = 1) = decide (p.kids.length = 1) := by by_cases q : p.kids.length = 1 <;> simp [q]; omega
    have e0 : decide ((p.kids.length : Int) = 0) = decide (p.kids.length = 0) := by by_cases q : p.kids.length = 0 <;> simp [q]
    have e2 : decide ((p.kids.length : Int) ≥ 2) = decide (2 ≤ p.kids.length) := by by_cases q : 2 ≤ p.kids.length <;> simp [q] <;> omega
    have c9 : ∀ (σ : St) (t u : Bool), σ 2 = P0 h.next 0 → σ 1 = I C → σ 5 = I p.kids.length → σ 6 = .bool t → σ 49 = .bool u → g132_C9 call n σ h1 (finS EK [.tmp 4]) =
        some (.ret (I (if (if u = true then decide (2 ≤ p.kids.length) else t) = true then (if risesGo C none p.cls = true then 0 else 51) else 53)) h1) := by
      intro σ t u h2 h1' h5 h6 h49
      rw [g132_C9]
      simp only [h49, cIf_eq]
      cases u with
      | true =>
        simp only [↓reduceIte, h5, cBin_geq, e2]
        rw [c10 _ (decide (2 ≤ p.kids.length)) (by simp [updL_cons, h2]) (by simp [updL_cons, h1']) (by simp [updL_cons])]
      | false =>
        simp only [Bool.false_eq_true, ↓reduceIte]
        rw [c10 _ t h2 h1' h6]
    have c8 : ∀ (σ : St) (t : Bool), σ 2 = P0 h.next 0 → σ 1 = I C → σ 5 = I p.kids.length → σ 6 = .bool t → g132_C8 call n σ h1 (finS EK [.tmp 4]) =
        some (.ret (I (if (if p.op = 2 ∨ p.op = 3 then decide (2 ≤ p.kids.length) else t) = true then (if risesGo C none p.cls = true then 0 else 51) else 53)) h1) := by
      intro σ t h2 h1' h5 h6
      rw [g132_C8]
      simp only [h2, cFieldAddr_ptr, Nat.zero_add, cLoad1_ptr, ld1_eq, hL0, ob_some, asLK_int, cBin_eql]
      by_cases q2 : p.op = 2
      · simp only [q2, decide_true, gd_true, cPick_eq, ↓reduceIte, true_or]
        rw [c9 _ t true (by simp [updL_cons, h2]) (by simp [updL_cons, h1']) (by simp [updL_cons, h5]) (by simp [updL_cons, h6]) (by simp [updL_cons])]
        simp
      · simp only [q2, decide_false, gd_false, false_or, cLoad1_ptr, ld1_eq, hL0, ob_some, asLK_int, cBin_eql, cPick_eq, Bool.false_eq_true, ↓reduceIte]
        rw [c9 _ t (decide (p.op = 3)) (by simp [updL_cons, h2]) (by simp [updL_cons, h1']) (by simp [updL_cons, h5]) (by simp [updL_cons, h6]) (by simp [updL_cons])]
        simp
    have c7 : ∀ (σ : St) (u : Bool), σ 2 = P0 h.next 0 → σ 1 = I C → σ 5 = I p.kids.length → σ 6 = .bool (decide (p.kids.length = 1)) → σ 39 = .bool u → g132_C7 call n σ h1 (finS EK [.tmp 4]) =
        some (.ret (I (if (if p.op = 2 ∨ p.op = 3 then decide (2 ≤ p.kids.length) else if u = true then decide (p.kids.length = 0) else decide (p.kids.length = 1)) = true then (if risesGo C none p.cls = true then 0 else 51) else 53)) h1) := by
      intro σ u h2 h1' h5 h6 h39
      rw [g132_C7]
      simp only [h39, cIf_eq]
      cases u with
      | true =>
        simp only [↓reduceIte, h5, cBin_eql, e0]
        rw [c8 _ (decide (p.kids.length = 0)) (by simp [updL_cons, h2]) (by simp [updL_cons, h1']) (by simp [updL_cons, h5]) (by simp [updL_cons])]
      | false =>
        simp only [Bool.false_eq_true, ↓reduceIte]
        rw [c8 _ _ h2 h1' h5 h6]
    rw [g132_C6]
    simp only [updL_cons, updL_nil, ↓reduceIte, Nat.reduceEqDiff, h2, cFieldAddr_ptr, Nat.zero_add, cLoad1_ptr, ld1_eq, hL0, ob_some, asLK_int, cBin_eql, e1]
    by_cases q0 : p.op = 0
    · simp only [q0, decide_true, gd_true, cPick_eq, ↓reduceIte, true_or]
      rw [c7 _ true (by simp [updL_cons, h2]) (by simp [updL_cons, h1']) (by simp [updL_cons]) (by simp [updL_cons]) (by simp [updL_cons])]
      simp [q0]
    · simp only [q0, decide_false, gd_false, false_or, updL_cons, updL_nil, ↓reduceIte, Nat.reduceEqDiff, h2, cFieldAddr_ptr, Nat.zero_add, cLoad1_ptr, ld1_eq, hL0, ob_some, asLK_int, cBin_eql, cPick_eq, Bool.false_eq_true]
      rw [c7 _ (decide (p.op = 1)) (by simp [updL_cons, h2]) (by simp [updL_cons, h1']) (by simp [updL_cons]) (by simp [updL_cons]) (by simp [updL_cons])]
      simp [q0]
  have c2 : ∀ (σ : St) (t : Bool), σ 2 = P0 h.next 0 → σ 1 = I C → σ 26 = .bool t → g132_C2 call n σ h1 (finS EK [.tmp 4]) = some (.ret (I (if t = true then 53 else
      (if (if p.op = 2 ∨ p.op = 3 then decide (2 ≤ p.kids.length) else if p.op = 0 ∨ p.op = 1 then decide (p.kids.length = 0) else decide (p.kids.length = 1)) = true then (if risesGo C none p.cls = true then 0 else 51) else 53))) h1) := by
    intro σ t h2 h1' h26
    rw [g132_C2]
    simp only [h26, cIf_eq]
    cases t with
    | true => simp [g132_C3, updL_cons]
    | false =>
      simp only [Bool.false_eq_true, ↓reduceIte]
      rw [c4 σ h2 h1']
  rw [g132_C1]
  simp only [updL_cons, updL_nil, ↓reduceIte, Nat.reduceEqDiff, cFieldAddr_ptr, Nat.zero_add, cLoad1_ptr, ld1_eq, hL0, ob_some, asLK_int, cBin_lss]
  by_cases q1 : p.op < 0
  · simp only [q1, decide_true, gd_true, cPick_eq, ↓reduceIte, gd_undef]
    rw [c2 _ true (by simp [updL_cons]) (by simp [updL_cons]) (by simp [updL_cons])]
    have : formOk p.op p.kids.length p.cls.length = false := by
      unfold formOk
      have : ¬ (p.op = 0 ∨ p.op = 1) := by omega
      have : ¬ (p.op = 2 ∨ p.op = 3) := by omega
      have : ¬ (p.op = 4 ∨ p.op = 5 ∨ p.op = 6) := by omega
      simp [*]
    simp [nodeF, this]
  · simp only [q1, decide_false, gd_false, updL_cons, updL_nil, ↓reduceIte, Nat.reduceEqDiff, cFieldAddr_ptr, Nat.zero_add, cLoad1_ptr, ld1_eq, hL0, ob_some, asLK_int, cBin_gtr, cPick_eq, Bool.false_eq_true]
    by_cases q6 : p.op > 6
    · simp only [q6, decide_true, gd_true, cPick_eq, ↓reduceIte, gd_undef]
      rw [c2 _ true (by simp [updL_cons]) (by simp [updL_cons]) (by simp [updL_cons])]
      have : formOk p.op p.kids.length p.cls.length = false := by
        unfold formOk
        have : ¬ (p.op = 0 ∨ p.op = 1) := by omega
        have : ¬ (p.op = 2 ∨ p.op = 3) := by omega
        have : ¬ (p.op = 4 ∨ p.op = 5 ∨ p.op = 6) := by omega
        simp [*]
      simp [nodeF, this]
    · simp only [q6, decide_false, gd_false, updL_cons, updL_nil, ↓reduceIte, Nat.reduceEqDiff, cFieldAddr_ptr, Nat.zero_add, cLoad1_ptr, ld1_eq, hL0, ob_some, asLK_int, cBin_neq]
      have hform : formOk p.op p.kids.length p.cls.length = ((if p.op = 2 ∨ p.op = 3 then decide (2 ≤ p.kids.length) else if p.op = 0 ∨ p.op = 1 then decide (p.kids.length = 0) else decide (p.kids.length = 1)) && (decide (p.op = 1) || decide (p.cls.length = 0))) := by
        unfold formOk
        by_cases z1 : p.op = 0 ∨ p.op = 1
        · have : ¬ (p.op = 2 ∨ p.op = 3) := by omega
          simp [z1, this]
        · by_cases z2 : p.op = 2 ∨ p.op = 3
          · simp [z1, z2]
          · have : p.op = 4 ∨ p.op = 5 ∨ p.op = 6 := by omega
            simp [z1, z2, this]
      by_cases z : p.op = 1
      · simp only [z, decide_true, Bool.not_true, gd_false, cPick_eq, Bool.false_eq_true, ↓reduceIte]
        rw [c2 _ false (by simp [updL_cons]) (by simp [updL_cons]) (by simp [updL_cons])]
        unfold nodeF
        rw [z] at hform
        rw [hform]
        simp [z]
      · simp only [z, decide_false, Bool.not_false, gd_true, updL_cons, updL_nil, ↓reduceIte, Nat.reduceEqDiff, cFieldAddr_ptr, Nat.zero_add, cLoad1_ptr, ld1_eq, hL1, hbe, ob_some, asLK_slc, cLenS_eq, cBin_gtr, cPick_eq, Bool.false_eq_true]
        rw [c2 _ (decide ((p.cls.length : Int) > 0)) (by simp [updL_cons]) (by simp [updL_cons]) (by simp [updL_cons])]
        by_cases e : p.cls.length = 0
        · have : ¬ ((p.cls.length : Int) > 0) := by omega
          unfold nodeF
          rw [hform]
          simp [z, this, e]
        · have : ((p.cls.length : Int) > 0) := by omega
          unfold nodeF
          rw [hform]
          simp [z, this, e]
end Go.Amb
end

section
/- A pattern's check, both ways. -/
set_option linter.unusedVariables false
set_option linter.unusedSimpArgs false
namespace Go.Amb
open Go.Proofs

mutual
def checkF (C : Int) : Pat → Nat → Int × Nat
  | .mk op cs ks, n => if 2048 ≤ n then (52, n) else kidsF C ks (nodeF C op ks.length cs) (n + 1)
def kidsF (C : Int) : List Pat → Int → Nat → Int × Nat
  | [], e, n => (e, n)
  | k :: ks, e, n => if e = 0 then kidsF C ks (checkF C k n).1 (checkF C k n).2 else (e, n)
end
mutual
def Pat.wt : Pat → Nat
  | .mk _ cs ks => cs.length + Pat.wtL ks + 10
def Pat.wtL : List Pat → Nat
  | [] => 0
  | p :: ps => p.wt + Pat.wtL ps
end
theorem Pat.wt_eq (p : Pat) : p.wt = p.cls.length + Pat.wtL p.kids + 10 := by cases p; simp only [Pat.wt, Pat.cls, Pat.kids]
theorem Pat.wtL_at : ∀ {ps : List Pat} {q : Nat} {p : Pat}, ps[q]? = some p → p.wt ≤ Pat.wtL ps := by
  intro ps
  induction ps with
  | nil => intro q p e; simp at e
  | cons p0 ps ih =>
    intro q p e
    simp only [Pat.wtL]
    cases q with
    | zero => simp at e; subst e; omega
    | succ q => simp at e; have := ih e; omega
theorem Pat.wtL_ge : ∀ (ps : List Pat), ps.length ≤ Pat.wtL ps := by
  intro ps
  induction ps with
  | nil => exact Nat.zero_le _
  | cons p ps ih => have := p.wt_eq; simp only [Pat.wtL, List.length_cons]; omega
theorem checkF_eq (C : Int) (p : Pat) (n : Nat) : checkF C p n = if 2048 ≤ n then (52, n) else kidsF C p.kids (nodeF C p.op p.kids.length p.cls) (n + 1) := by cases p; simp only [checkF, Pat.kids, Pat.op, Pat.cls]
theorem kidsF_drop (C : Int) {ks : List Pat} {i : Nat} {k : Pat} (e : ks[i]? = some k) (x : Int) (n : Nat) : kidsF C (ks.drop i) x n = if x = 0 then kidsF C (ks.drop (i + 1)) (checkF C k n).1 (checkF C k n).2 else (x, n) := by
  have hi : i < ks.length := (List.getElem?_eq_some_iff.1 e).1
  rw [List.drop_eq_getElem_cons hi]
  have : ks[i] = k := by rw [List.getElem?_eq_getElem hi] at e; exact Option.some.inj e
  rw [this]
  simp only [kidsF]

theorem exL {α : Type} {A : α} {R : AHeap → α} {B B' : AHeap → Prop} (x : ∃ h', A = R h' ∧ B h') (y : ∀ h', B h' → B' h') : ∃ h', A = R h' ∧ B' h' := by
  obtain ⟨h', a, b⟩ := x
  exact ⟨h', a, y h' b⟩
def Spec99 (X : Call) (C : Int) (p : Pat) : Prop := ∀ (n : Nat) {N : Nat} {h : AHeap} {a b c : Value} (k : Nat), PatAt N h p a b c → N ≤ h.next → p.wt ≤ n →
    ∃ h', evF EK X n 99 [.agg [a, b, c].toArray, I C, I k] h = some (.ret (.tuple #[I (checkF C p k).1, I (checkF C p k).2]) h') ∧ h.next ≤ h'.next ∧ ∀ i, i < h.next → h'.get i = h.get i

theorem ev99_loop (X : Call) (n lf : Nat) {N : Nat} {p : Pat} {x y z : Value} {b : Nat} (C : Int) (K : KS) (hS : ∀ k ∈ p.kids, Spec99 X C k) (hw : Pat.wtL p.kids ≤ n)
    (kx : ∀ σ' h' (e : Int) (k : Nat), σ' 8 = I e → σ' 9 = I k → K (.exit 0) σ' h' = some (.ret (.tuple #[I e, I k]) h')) :
    ∀ (m i f : Nat) (h : AHeap) (σ : St) (e : Int) (k : Nat), p.kids.length - i = m → i ≤ p.kids.length → m < f → N ≤ b → b < h.next → PatAt N h p x y z → h.get b = .cells [x, y, z] 64 none false →
    σ 3 = P0 b 0 → σ 10 = I i → σ 8 = I e → σ 9 = I k → σ 1 = I C →
    ∃ h', loopS (g99_L1 (evF EK X n) lf) f σ h K = some (.ret (.tuple #[I (kidsF C (p.kids.drop i) e k).1, I (kidsF C (p.kids.drop i) e k).2]) h') ∧ h.next ≤ h'.next ∧ ∀ i, i < h.next → h'.get i = h.get i := by
  intro m
  induction m with
  | zero =>
    intro i f h σ e k hm hi hf hNb hbn HP hB h3 h10 h8 h9 h1
    obtain ⟨f, rfl⟩ : ∃ q, f = q + 1 := ⟨f - 1, by omega⟩
    have hil : i = p.kids.length := by omega
    subst hil
    obtain ⟨za, zc, hz, hlen⟩ := HP.kidsSlc
    have hL2 : h.cell? b 2 = some z := by rw [cell?_of hB]; rfl
    refine ⟨h, ?_, Nat.le_refl _, fun _ _ => rfl⟩
    rw [List.drop_length, loopS_succ, g99_L1]
    simp only [h3, h10, cFieldAddr_ptr, Nat.zero_add, cLoad1_ptr, ld1_eq, hL2, hz, ob_some, asLK_slc, cLenS_eq, cBin_lss, Int.lt_irrefl, decide_false, gd_false, cPick_eq, Bool.false_eq_true, if_false, g99_C2, updL_cons, updL_nil, ↓reduceIte, Nat.reduceEqDiff, cIf_eq, loopK_exit]
    rw [kx _ _ e k (by simp [updL_cons, h8]) (by simp [updL_cons, h9])]
    simp only [kidsF]
  | succ m ih =>
    intro i f h σ e k hm hi hf hNb hbn HP hB h3 h10 h8 h9 h1
    obtain ⟨f, rfl⟩ : ∃ q, f = q + 1 := ⟨f - 1, by omega⟩
    have hil : i < p.kids.length := by omega
    have hget : p.kids[i]? = some p.kids[i] := List.getElem?_eq_getElem hil
    generalize p.kids[i] = kd at hget
    obtain ⟨za, zc, hz, hlen⟩ := HP.kidsSlc
    have htop : (p.kids.length : Int) ≤ 9223372036854775807 := by unfold top at hlen; omega
    have hL2 : h.cell? b 2 = some z := by rw [cell?_of hB]; rfl
    have h1' : ((i : Int) < (p.kids.length : Int)) := by omega
    rw [kidsF_drop C hget, loopS_succ, g99_L1]
    simp only [h3, h10, h8, cFieldAddr_ptr, Nat.zero_add, cLoad1_ptr, ld1_eq, hL2, hz, ob_some, asLK_slc, cLenS_eq, cBin_lss, h1', decide_true, gd_true, cBin_eql, cPick_eq, if_true]
    rw [g99_C2]
    by_cases e0 : e = 0
    · subst e0
      obtain ⟨j, cap, kx', ky, kz, he, _, _, hj, HK, hkx, hky, hkz, c0, c1, c2⟩ := HP.kid hget
      rw [hz] at he
      cases he
      simp only [updL_cons, updL_nil, ↓reduceIte, Nat.reduceEqDiff, decide_true, cIf_eq, h3, h10, h1, h9, cFieldAddr_ptr, Nat.zero_add, cLoad1_ptr, ld1_eq, hL2, hz, ob_some, asLK_slc, cIdxS_slice, idx?_nat hil, cLoadA_ptr, load_kid hkx hky hkz c0 c1 c2]
      have hwk := Pat.wtL_at hget
      obtain ⟨h', q1, q2, q3⟩ := hS kd (List.mem_of_getElem? hget) n k HK (by omega) (by omega)
      rw [cCall_ret q1]
      simp only [asRetL_two, asResL_cons, asResL_nil, asTIL_one, asLK_int, cExtract_eq, List.getElem?_cons_zero, List.getElem?_cons_succ, ob_some, List.toList_toArray]
      rw [cBin_add _ _ _ (by omega) (by omega)]
      simp only [loopK_normal]
      exact exL (ih (i + 1) f h' _ (checkF C kd k).1 (checkF C kd k).2 (by omega) (by omega) (by omega) hNb (by omega) (HP.frame (fun t ht => q3 t (by omega)) _) (by rw [q3 b hbn]; exact hB)
        (by simp [updL_cons, h3]) (by simp [updL_cons]) (by simp [updL_cons]) (by simp [updL_cons]) (by simp [updL_cons, h1])) fun h'' ⟨r2, r3⟩ => ⟨by omega, fun t ht => by rw [r3 t (by omega), q3 t ht]⟩
    · refine ⟨h, ?_, Nat.le_refl _, fun _ _ => rfl⟩
      simp only [updL_cons, updL_nil, ↓reduceIte, Nat.reduceEqDiff, e0, decide_false, cIf_eq, Bool.false_eq_true, loopK_exit]
      rw [kx _ _ e k (by simp [updL_cons, h8]) (by simp [updL_cons, h9])]
theorem ev99 (X : Call) (C : Int) : ∀ (m : Nat) (p : Pat), p.wt ≤ m → Spec99 X C p := by
  intro m
  induction m with
  | zero => intro p h; have := p.wt_eq; omega
  | succ m ih =>
    intro p hp n N h a b c k HP hN hn
    have hwt := p.wt_eq
    obtain ⟨n, rfl⟩ : ∃ q, n = q + 1 := ⟨n - 1, by omega⟩
    obtain ⟨n, rfl⟩ : ∃ q, n = q + 1 := ⟨n - 1, by omega⟩
    have hS : ∀ kd ∈ p.kids, Spec99 X C kd := fun kd hk => ih kd (by
      obtain ⟨q, hq⟩ := List.mem_iff_getElem?.1 hk
      have := Pat.wtL_at hq
      omega)
    obtain ⟨ha, hb, _⟩ := HP.parts
    obtain ⟨ka, kc, hce, hk⟩ := HP.kidsSlc
    obtain ⟨ba, bc, hbe, hbl⟩ := hb.slc
    have hB := get_new_self h (.cells [a, b, c] 64 none false)
    have HP' : PatAt N (h.new (.cells [a, b, c] 64 none false)) p a b c := HP.frame (fun i hi => get_new_lt _ (by omega)) _
    have hnx : (h.new (.cells [a, b, c] 64 none false)).next = h.next + 1 := rfl
    have hkeep : ∀ i, i < h.next → (h.new (.cells [a, b, c] 64 none false)).get i = h.get i := fun i hi => get_new_lt _ hi
    rw [evF_B _ _ _ _ _ _ (by kernel_rfl), g99_eq, g99]
    simp only [st0_zero, st0_succ, cNew_eq, Value.cells, List.toList_toArray, cBin_geq, cIf_eq]
    generalize h.new (.cells [a, b, c] 64 none false) = h1 at *
    rw [checkF_eq]
    by_cases e : 2048 ≤ k
    · have : (k : Int) ≥ 2048 := by omega
      refine ⟨h1, ?_, by omega, hkeep⟩
      simp [this, e, updL_cons]
    · have : ¬ ((k : Int) ≥ 2048) := by omega
      have hc0 : h1.cell? h.next 0 = some a := by rw [cell?_of hB]; rfl
      have hc1 : h1.cell? h.next 1 = some b := by rw [cell?_of hB]; rfl
      have hc2 : h1.cell? h.next 2 = some c := by rw [cell?_of hB]; rfl
      simp only [this, e, decide_false, Bool.false_eq_true, if_false, cLoadA_ptr, load_kid ha ⟨_, _, _, hbe⟩ ⟨_, _, _, hce⟩ hc0 hc1 hc2]
      obtain ⟨h2, q1, q2, q3⟩ := ev132 X n HP' (by omega) C (by omega)
      rw [cCall_ret q1]
      simp only [asRetL_one, asTIL_one, asLK_int]
      rw [cBin_add _ _ _ (by omega) (by omega)]
      have hgl := Pat.wtL_ge p.kids
      obtain ⟨h3, r1, r2, r3⟩ := ev99_loop X (n + 1) (n + 1) (p := p) (b := h.next) C (hBlk 0 (hSeq (fun σ h => g99_C3 (evF EK X (n + 1)) (n + 1) σ h (finS EK [.tmp 6, .tmp 7])) (finS EK [.tmp 6, .tmp 7]))) hS (by omega)
        (fun σ' h' e k q8 q9 => by simp [g99_C3, updL_cons, q8, q9]) p.kids.length 0 (n + 1) h2 (updL (st0 [.agg [a, b, c].toArray, I C, I k]) [(10, I 0), (9, I (k + 1)), (18, I (k + 1)), (17, I k), (8, I (nodeF C p.op p.kids.length p.cls)), (16, I (nodeF C p.op p.kids.length p.cls)), (15, I C), (14, .agg [a, b, c].toArray), (12, .bool false), (11, I k), (7, I 0), (6, I 0), (3, P0 h.next 0)])
        (nodeF C p.op p.kids.length p.cls) (k + 1) (by omega) (by omega) (by omega) hN (by omega) (HP'.frame (fun t ht => q3 t (by omega)) _) (by rw [q3 _ (by omega)]; exact hB)
        (by simp [updL_cons]) (by simp [updL_cons]) (by simp [updL_cons]) (by simp [updL_cons]) (by simp [updL_cons])
      refine ⟨h3, ?_, by omega, fun t ht => by rw [r3 t (by omega), q3 t (by omega), hkeep t ht]⟩
      rw [List.drop_zero] at r1
      rw [← r1]
end Go.Amb
end

section
/- A pattern's check, the program's way. -/
set_option linter.unusedVariables false
set_option linter.unusedSimpArgs false
namespace Go.Amb
open Go.Proofs

abbrev F97 (cn cl cf : Nat) : Value := .func (.func 97) #[] #[P0 cn 0, P0 cl 0, P0 cf 0]
/-- The closure's variables. -/
structure Clo97 (h : AHeap) (C : Int) (N cn cl cf : Nat) : Prop where
  l : h.get cl = .cells [I C] 3 none false
  f : h.get cf = .cells [F97 cn cl cf] 149 none false
  nl : cn ≠ cl
  nf : cn ≠ cf
  bn : N ≤ cn ∧ cn < h.next
  bl : cl < h.next
  bf : cf < h.next
theorem Clo97.keep {h h' : AHeap} {C : Int} {N cn cl cf : Nat} (H : Clo97 h C N cn cl cf) (hn : h.next ≤ h'.next) (k : ∀ i, i < h.next → i ≠ cn → h'.get i = h.get i) : Clo97 h' C N cn cl cf :=
  ⟨by rw [k cl H.bl H.nl.symm]; exact H.l, by rw [k cf H.bf H.nf.symm]; exact H.f, H.nl, H.nf, ⟨H.bn.1, by have := H.bn.2; omega⟩, by have := H.bl; omega, by have := H.bf; omega⟩
def Spec97 (X : Call) (C : Int) (p : Pat) : Prop := ∀ (n : Nat) {N : Nat} {h : AHeap} {a b c : Value} {cn cl cf : Nat} (k : Nat), PatAt N h p a b c → k ≤ 2048 → p.wt ≤ n → Clo97 h C N cn cl cf → h.get cn = .cells [I k] 3 none false →
    ∃ h', evF EK X n 97 [.agg [a, b, c].toArray, P0 cn 0, P0 cl 0, P0 cf 0] h = some (.ret (I (checkF C p k).1) h') ∧ (h.next ≤ h'.next ∧ (∀ i, i < h.next → i ≠ cn → h'.get i = h.get i) ∧ h'.get cn = .cells [I (checkF C p k).2] 3 none false ∧ (checkF C p k).2 ≤ 2048)
theorem PatAt.keepBut {N : Nat} {h h' : AHeap} {p : Pat} {a b c : Value} {cn : Nat} (H : PatAt N h p a b c) (hc : N ≤ cn) (hn : N ≤ h.next) (k : ∀ i, i < h.next → i ≠ cn → h'.get i = h.get i) : PatAt N h' p a b c :=
  H.frame (fun i hi => k i (by omega) (by omega)) _

theorem ev97_loop (X : Call) (n lf : Nat) {N : Nat} {p : Pat} {x y z : Value} {b cn cl cf : Nat} (C : Int) (K : KS) (hS : ∀ k ∈ p.kids, Spec97 X C k) (hw : Pat.wtL p.kids ≤ n)
    (kx : ∀ σ' h' (e : Int), σ' 6 = I e → K (.exit 0) σ' h' = some (.ret (I e) h')) :
    ∀ (m i f : Nat) (h : AHeap) (σ : St) (e : Int) (k : Nat), p.kids.length - i = m → i ≤ p.kids.length → m < f → N ≤ b → b < h.next → b ≠ cn → k ≤ 2048 → PatAt N h p x y z → h.get b = .cells [x, y, z] 64 none false → Clo97 h C N cn cl cf → h.get cn = .cells [I k] 3 none false →
    σ 4 = P0 b 0 → σ 7 = I i → σ 6 = I e → σ 3 = P0 cf 0 →
    ∃ h', loopS (g97_L1 (evF EK X n) lf) f σ h K = some (.ret (I (kidsF C (p.kids.drop i) e k).1) h') ∧ (h.next ≤ h'.next ∧ (∀ i, i < h.next → i ≠ cn → h'.get i = h.get i) ∧ h'.get cn = .cells [I (kidsF C (p.kids.drop i) e k).2] 3 none false ∧ (kidsF C (p.kids.drop i) e k).2 ≤ 2048) := by
  intro m
  induction m with
  | zero =>
    intro i f h σ e k hm hi hf hNb hbn hbc hk HP hB HC hcn h3 h10 h8 h9
    obtain ⟨f, rfl⟩ : ∃ q, f = q + 1 := ⟨f - 1, by omega⟩
    have hil : i = p.kids.length := by omega
    subst hil
    obtain ⟨za, zc, hz, hlen⟩ := HP.kidsSlc
    have hL2 : h.cell? b 2 = some z := by rw [cell?_of hB]; rfl
    refine ⟨h, ?_, Nat.le_refl _, fun _ _ _ => rfl, by rw [List.drop_length]; simp only [kidsF]; exact hcn, by rw [List.drop_length]; simp only [kidsF]; exact hk⟩
    rw [List.drop_length, loopS_succ, g97_L1]
    simp only [h3, h10, cFieldAddr_ptr, Nat.zero_add, cLoad1_ptr, ld1_eq, hL2, hz, ob_some, asLK_slc, cLenS_eq, cBin_lss, Int.lt_irrefl, decide_false, gd_false, cPick_eq, Bool.false_eq_true, if_false, g97_C2, updL_cons, updL_nil, ↓reduceIte, Nat.reduceEqDiff, cIf_eq, loopK_exit]
    rw [kx _ _ e (by simp [updL_cons, h8])]
    simp only [kidsF]
  | succ m ih =>
    intro i f h σ e k hm hi hf hNb hbn hbc hk HP hB HC hcn h3 h10 h8 h9
    obtain ⟨f, rfl⟩ : ∃ q, f = q + 1 := ⟨f - 1, by omega⟩
    have hil : i < p.kids.length := by omega
    have hget : p.kids[i]? = some p.kids[i] := List.getElem?_eq_getElem hil
    generalize p.kids[i] = kd at hget
    obtain ⟨za, zc, hz, hlen⟩ := HP.kidsSlc
    have htop : (p.kids.length : Int) ≤ 9223372036854775807 := by unfold top at hlen; omega
    have hL2 : h.cell? b 2 = some z := by rw [cell?_of hB]; rfl
    have h1' : ((i : Int) < (p.kids.length : Int)) := by omega
    rw [kidsF_drop C hget, loopS_succ, g97_L1]
    simp only [h3, h10, h8, cFieldAddr_ptr, Nat.zero_add, cLoad1_ptr, ld1_eq, hL2, hz, ob_some, asLK_slc, cLenS_eq, cBin_lss, h1', decide_true, gd_true, cBin_eql, cPick_eq, if_true]
    rw [g97_C2]
    by_cases e0 : e = 0
    · subst e0
      obtain ⟨j, cap, kx', ky, kz, he, _, _, hj, HK, hkx, hky, hkz, c0, c1, c2⟩ := HP.kid hget
      rw [hz] at he
      cases he
      have hF : h.cell? cf 0 = some (F97 cn cl cf) := by rw [cell?_of HC.f]; rfl
      simp only [updL_cons, updL_nil, ↓reduceIte, Nat.reduceEqDiff, decide_true, cIf_eq, h3, h10, h9, cFieldAddr_ptr, Nat.zero_add, cLoad1_ptr, ld1_eq, hL2, hz, hF, ob_some, asLK_slc, asLK_any, rety_eq, dr_ret, cIdxS_slice, idx?_nat hil, cLoadA_ptr, load_kid hkx hky hkz c0 c1 c2, cCallV_func, c97, List.nil_append, List.cons_append]
      have hwk := Pat.wtL_at hget
      obtain ⟨h', q1, q2, q3, q4, q5⟩ := hS kd (List.mem_of_getElem? hget) n k HK hk (by omega) HC hcn
      rw [cCall_ret q1]
      simp only [asRetL_one, asTIL_one, asLK_int, dr_ret]
      rw [cBin_add _ _ _ (by omega) (by omega)]
      simp only [loopK_normal]
      exact exL (ih (i + 1) f h' _ (checkF C kd k).1 (checkF C kd k).2 (by omega) (by omega) (by omega) hNb (by omega) hbc q5 (HP.keepBut HC.bn.1 (by have := HC.bn; omega) q3) (by rw [q3 b hbn hbc]; exact hB) (HC.keep q2 q3) q4
        (by simp [updL_cons, h3]) (by simp [updL_cons]) (by simp [updL_cons]) (by simp [updL_cons, h9])) fun h'' ⟨r2, r3, r4, r5⟩ => ⟨by omega, fun t ht hc => by rw [r3 t (by omega) hc, q3 t ht hc], r4, r5⟩
    · refine ⟨h, ?_, Nat.le_refl _, fun _ _ _ => rfl, by rw [if_neg e0]; exact hcn, by rw [if_neg e0]; exact hk⟩
      simp only [updL_cons, updL_nil, ↓reduceIte, Nat.reduceEqDiff, e0, decide_false, cIf_eq, Bool.false_eq_true, loopK_exit]
      rw [kx _ _ e (by simp [updL_cons, h8])]
theorem ev97 (X : Call) (C : Int) : ∀ (m : Nat) (p : Pat), p.wt ≤ m → Spec97 X C p := by
  intro m
  induction m with
  | zero => intro p h; have := p.wt_eq; omega
  | succ m ih =>
    intro p hp n N h a b c cn cl cf k HP hk hn HC hcn
    have hwt := p.wt_eq
    obtain ⟨n, rfl⟩ : ∃ q, n = q + 1 := ⟨n - 1, by omega⟩
    obtain ⟨n, rfl⟩ : ∃ q, n = q + 1 := ⟨n - 1, by omega⟩
    have hS : ∀ kd ∈ p.kids, Spec97 X C kd := fun kd hk => ih kd (by
      obtain ⟨q, hq⟩ := List.mem_iff_getElem?.1 hk
      have := Pat.wtL_at hq
      omega)
    have hN : N ≤ h.next := by have := HC.bn; omega
    have hcb := HC.bn.2
    obtain ⟨ha, hb, _⟩ := HP.parts
    obtain ⟨ka, kc, hce, hkl⟩ := HP.kidsSlc
    obtain ⟨ba, bc, hbe, hbl⟩ := hb.slc
    have hB := get_new_self h (.cells [a, b, c] 64 none false)
    have HP' : PatAt N (h.new (.cells [a, b, c] 64 none false)) p a b c := HP.frame (fun i hi => get_new_lt _ (by omega)) _
    have hnx : (h.new (.cells [a, b, c] 64 none false)).next = h.next + 1 := rfl
    have hkeep : ∀ i, i < h.next → (h.new (.cells [a, b, c] 64 none false)).get i = h.get i := fun i hi => get_new_lt _ hi
    have HC' := HC.keep (h' := h.new (.cells [a, b, c] 64 none false)) (by omega) fun i hi _ => hkeep i hi
    have hcn' : (h.new (.cells [a, b, c] 64 none false)).get cn = .cells [I k] 3 none false := by rw [hkeep cn hcb]; exact hcn
    rw [evF_B _ _ _ _ _ _ (by kernel_rfl), g97_eq, g97]
    have hcnc := fun h1 : AHeap => fun (q : h1.get cn = .cells [I k] 3 none false) => (show h1.cell? cn 0 = some (I k) by rw [cell?_of q]; rfl)
    simp only [st0_zero, st0_succ, cNew_eq, Value.cells, List.toList_toArray, cLoad1_ptr, ld1_eq, hcnc _ hcn', ob_some, asLK_int, cBin_eql, cIf_eq]
    generalize h.new (.cells [a, b, c] 64 none false) = h1 at *
    rw [checkF_eq]
    by_cases e : 2048 ≤ k
    · have hk' : k = 2048 := by omega
      subst hk'
      refine ⟨h1, ?_, by omega, fun i hi _ => hkeep i hi, hcn', Nat.le_refl _⟩
      simp [updL_cons]
    · have hne : ¬ ((k : Int) = 2048) := by omega
      simp only [hne, e, decide_false, Bool.false_eq_true, if_false]
      rw [cBin_add _ _ _ (by omega) (by omega)]
      simp only [cStore_ptr, Value.cells, List.length_cons, List.length_nil, Nat.zero_add]
      have hst : h1.st cn 0 [I ((k : Int) + 1)] = some (h1.set cn (.cells [I ((k + 1 : Nat) : Int)] 3 none false)) := by
        rw [st_of hcn' (by simp) rfl]
        rfl
      rw [hst]
      simp only [ob_some]
      have hset : ∀ i, i ≠ cn → (h1.set cn (.cells [I ((k + 1 : Nat) : Int)] 3 none false)).get i = h1.get i := fun i hi => AHeap.get_set_ne _ _ hi
      have hsc : (h1.set cn (.cells [I ((k + 1 : Nat) : Int)] 3 none false)).get cn = .cells [I ((k + 1 : Nat) : Int)] 3 none false := AHeap.get_set_same _ _ _
      have hsn : (h1.set cn (.cells [I ((k + 1 : Nat) : Int)] 3 none false)).next = h1.next := rfl
      generalize h1.set cn (.cells [I ((k + 1 : Nat) : Int)] 3 none false) = h2 at *
      have hbx : h.next ≠ cn := by omega
      have hB2 : h2.get h.next = .cells [a, b, c] 64 none false := by rw [hset _ hbx]; exact hB
      have hc0 : h2.cell? h.next 0 = some a := by rw [cell?_of hB2]; rfl
      have hc1 : h2.cell? h.next 1 = some b := by rw [cell?_of hB2]; rfl
      have hc2 : h2.cell? h.next 2 = some c := by rw [cell?_of hB2]; rfl
      have HC2 := HC'.keep (h' := h2) (by omega) fun i _ hi => hset i hi
      have hCl : h2.cell? cl 0 = some (I C) := by rw [cell?_of HC2.l]; rfl
      have HP2 := HP'.keepBut (h' := h2) HC.bn.1 (by omega) fun i _ hi => hset i hi
      simp only [cLoadA_ptr, load_kid ha ⟨_, _, _, hbe⟩ ⟨_, _, _, hce⟩ hc0 hc1 hc2, cLoad1_ptr, ld1_eq, hCl, ob_some, asLK_int]
      obtain ⟨h3, q1, q2, q3⟩ := ev98 X n HP2 (by omega) C (by omega)
      rw [cCall_ret q1]
      simp only [asRetL_one, asTIL_one, asLK_int]
      have hgl := Pat.wtL_ge p.kids
      exact exL (ev97_loop X (n + 1) (n + 1) (p := p) (b := h.next) (cn := cn) (cl := cl) (cf := cf) C _ hS (by omega)
        (fun σ' h' e q8 => by simp [g97_C3, updL_cons, q8]) p.kids.length 0 (n + 1) h3 _
        (nodeF C p.op p.kids.length p.cls) (k + 1) (by omega) (by omega) (by omega) hN (by omega) hbx (by omega) (HP2.frame (fun t ht => q3 t (by omega)) _) (by rw [q3 _ (by omega)]; exact hB2)
        (HC2.keep q2 fun i hi _ => q3 i hi) (by rw [q3 cn (by omega)]; exact hsc) (by simp [updL_cons]) (by simp [updL_cons]) (by simp [updL_cons]) (by simp [updL_cons]))
        fun h'' ⟨r2, r3, r4, r5⟩ => ⟨by omega, fun t ht hc => by rw [r3 t (by omega) hc, q3 t (by omega), hset t hc, hkeep t ht], r4, r5⟩
end Go.Amb
end

section
/- A pattern's check, from the top. -/
set_option linter.unusedVariables false
set_option linter.unusedSimpArgs false
namespace Go.Amb
open Go.Proofs

theorem ev62 (X : Call) (n : Nat) {N : Nat} {h : AHeap} {p : Pat} {a b c : Value} (HP : PatAt N h p a b c) (hN : N ≤ h.next) (C : Int) (hn : p.wt ≤ n) :
    ∃ h', evF EK X (n + 1) 62 [.agg [a, b, c].toArray, I C] h = some (.ret (I (checkF C p 0).1) h') ∧ (h.next ≤ h'.next ∧ ∀ i, i < h.next → h'.get i = h.get i) := by
  obtain ⟨ha, hb, _⟩ := HP.parts
  obtain ⟨ka, kc, hce, hk⟩ := HP.kidsSlc
  obtain ⟨ba, bc, hbe, hbl⟩ := hb.slc
  have hB := get_new_self h (.cells [a, b, c] 64 none false)
  have HP' : PatAt N (h.new (.cells [a, b, c] 64 none false)) p a b c := HP.frame (fun i hi => get_new_lt _ (by omega)) _
  have hnx : (h.new (.cells [a, b, c] 64 none false)).next = h.next + 1 := rfl
  have hkeep : ∀ i, i < h.next → (h.new (.cells [a, b, c] 64 none false)).get i = h.get i := fun i hi => get_new_lt _ hi
  rw [evF_B _ _ _ _ _ _ (by kernel_rfl), g62_eq, g62]
  simp only [st0_zero, st0_succ, cNew_eq, Value.cells, List.toList_toArray]
  generalize h.new (.cells [a, b, c] 64 none false) = h1 at *
  have hc0 : h1.cell? h.next 0 = some a := by rw [cell?_of hB]; rfl
  have hc1 : h1.cell? h.next 1 = some b := by rw [cell?_of hB]; rfl
  have hc2 : h1.cell? h.next 2 = some c := by rw [cell?_of hB]; rfl
  simp only [cLoadA_ptr, load_kid ha ⟨_, _, _, hbe⟩ ⟨_, _, _, hce⟩ hc0 hc1 hc2]
  obtain ⟨h2, q1, q2, q3⟩ := ev99 X C p.wt p (Nat.le_refl _) n 0 HP' (by omega) hn
  rw [show (Go.Value.int Go.IntKind.i64 0) = I ((0 : Nat) : Int) from rfl, cCall_ret q1]
  refine ⟨h2, ?_, by omega, fun i hi => by rw [q3 i (by omega), hkeep i hi]⟩
  simp [updL_cons]

theorem ev55 (X : Call) (n : Nat) {N : Nat} {h : AHeap} {p : Pat} {a b c : Value} (HP : PatAt N h p a b c) (hN : N ≤ h.next) (C : Int) (hn : p.wt ≤ n) :
    ∃ h', evF EK X (n + 1) 55 [.agg [a, b, c].toArray, I C] h = some (.ret (I (checkF C p 0).1) h') ∧ (h.next ≤ h'.next ∧ ∀ i, i < h.next → h'.get i = h.get i) := by
  obtain ⟨ha, hb, _⟩ := HP.parts
  obtain ⟨ka, kc, hce, hk⟩ := HP.kidsSlc
  obtain ⟨ba, bc, hbe, hbl⟩ := hb.slc
  rw [evF_B _ _ _ _ _ _ (by kernel_rfl), g55_eq, g55]
  simp only [st0_zero, st0_succ, cNew_eq, Value.cells, List.toList_toArray, AHeap.next_new]
  -- the boxes
  have s1 : (((h.new (.cells [a, b, c] 64 none false)).new (.cells [I C] 3 none false)).new (.cells [I 0] 3 none false)).st (h.next + 1 + 1) 0 [I 0] =
      some ((((h.new (.cells [a, b, c] 64 none false)).new (.cells [I C] 3 none false)).new (.cells [I 0] 3 none false)).set (h.next + 1 + 1) (.cells [I 0] 3 none false)) := by
    exact st_of (o := 0) (vs := [I 0]) (get_new_self ((h.new (.cells [a, b, c] 64 none false)).new (.cells [I C] 3 none false)) (.cells [I 0] 3 none false)) (by simp) rfl
  simp only [cStore_ptr, Value.cells, List.length_cons, List.length_nil, Nat.zero_add, s1, ob_some, AHeap.next_set, AHeap.next_new]
  generalize hA : ((((h.new (.cells [a, b, c] 64 none false)).new (.cells [I C] 3 none false)).new (.cells [I 0] 3 none false)).set (h.next + 1 + 1) (.cells [I 0] 3 none false)) = hA1
  have nA : hA1.next = h.next + 3 := by rw [← hA]; rfl
  have kA : ∀ i, i < h.next → hA1.get i = h.get i := fun i hi => by
    rw [← hA, AHeap.get_set_ne _ _ (by omega), get_new_lt _ (by simp; omega), get_new_lt _ (by simp; omega), get_new_lt _ hi]
  have bA : hA1.get h.next = .cells [a, b, c] 64 none false := by
    rw [← hA, AHeap.get_set_ne _ _ (by omega), get_new_lt _ (by simp; omega), get_new_lt _ (by simp)]
    exact get_new_self _ _
  have cA : hA1.get (h.next + 1) = .cells [I C] 3 none false := by
    rw [← hA, AHeap.get_set_ne _ _ (by omega), get_new_lt _ (by simp)]
    exact get_new_self (h.new (.cells [a, b, c] 64 none false)) _
  have dA : hA1.get (h.next + 1 + 1) = .cells [I 0] 3 none false := by
    rw [← hA]
    exact AHeap.get_set_same _ _ _
  have s2 : (hA1.new (.cells [.nilFunc] 149 none false)).st (h.next + 1 + 1 + 1) 0 [F97 (h.next + 1 + 1) (h.next + 1) (h.next + 1 + 1 + 1)] = some ((hA1.new (.cells [.nilFunc] 149 none false)).set (h.next + 1 + 1 + 1) (.cells [F97 (h.next + 1 + 1) (h.next + 1) (h.next + 1 + 1 + 1)] 149 none false)) := by
    have g : (hA1.new (.cells [.nilFunc] 149 none false)).get (h.next + 1 + 1 + 1) = .cells [.nilFunc] 149 none false := by
      rw [show h.next + 1 + 1 + 1 = hA1.next from nA.symm]
      exact get_new_self _ _
    rw [st_of g (by simp) rfl]
    rfl
  simp only [s2, ob_some]
  generalize hB : (hA1.new (.cells [.nilFunc] 149 none false)).set (h.next + 1 + 1 + 1) (.cells [F97 (h.next + 1 + 1) (h.next + 1) (h.next + 1 + 1 + 1)] 149 none false) = hB1
  have nB : hB1.next = h.next + 4 := by rw [← hB]; simp [nA]
  have kB : ∀ i, i < h.next + 1 + 1 + 1 → hB1.get i = hA1.get i := fun i hi => by rw [← hB, AHeap.get_set_ne _ _ (by omega), get_new_lt _ (by omega)]
  have fB : hB1.get (h.next + 1 + 1 + 1) = .cells [F97 (h.next + 1 + 1) (h.next + 1) (h.next + 1 + 1 + 1)] 149 none false := by rw [← hB]; exact AHeap.get_set_same _ _ _
  have hb0 : hB1.get h.next = .cells [a, b, c] 64 none false := by rw [kB _ (by omega)]; exact bA
  have hc0 : hB1.cell? h.next 0 = some a := by rw [cell?_of hb0]; rfl
  have hc1 : hB1.cell? h.next 1 = some b := by rw [cell?_of hb0]; rfl
  have hc2 : hB1.cell? h.next 2 = some c := by rw [cell?_of hb0]; rfl
  have hf0 : hB1.cell? (h.next + 1 + 1 + 1) 0 = some (F97 (h.next + 1 + 1) (h.next + 1) (h.next + 1 + 1 + 1)) := by rw [cell?_of fB]; rfl
  have HC : Clo97 hB1 C N (h.next + 1 + 1) (h.next + 1) (h.next + 1 + 1 + 1) := ⟨by rw [kB _ (by omega)]; exact cA, fB, by omega, by omega, by omega, by omega, by omega⟩
  have HPB : PatAt N hB1 p a b c := HP.frame (fun i hi => by rw [kB i (by omega), kA i (by omega)]) _
  simp only [cLoad1_ptr, ld1_eq, hf0, ob_some, asLK_any, cLoadA_ptr, load_kid ha ⟨_, _, _, hbe⟩ ⟨_, _, _, hce⟩ hc0 hc1 hc2, cCallV_func, c97, List.nil_append, List.cons_append]
  obtain ⟨h2, q1, q2, q3, q4, q5⟩ := ev97 X C p.wt p (Nat.le_refl _) n 0 HPB (by omega) hn HC (by rw [kB _ (by omega)]; exact dA)
  rw [cCall_ret q1]
  refine ⟨h2, ?_, by omega, fun i hi => by rw [q3 i (by omega) (by omega), kB i (by omega), kA i hi]⟩
  simp [updL_cons]
end Go.Amb
end
