/- Operations that make memory. -/
import Derived.Test.YtpakfehinfcdoaaAw8
namespace Go.Aw
open Go.RowKit

def Env.upd (η : Env) (k : Nat) (v : Value) (cs : List Value) : Env := ⟨fun j => if j = k then v else η.val j, fun j => if j = k then cs else η.cel j⟩

theorem upd_val (η : Env) (k : Nat) (v : Value) (cs : List Value) : (η.upd k v cs).val k = v := by simp [Env.upd]
theorem upd_cel (η : Env) (k : Nat) (v : Value) (cs : List Value) : (η.upd k v cs).cel k = cs := by simp [Env.upd]
theorem upd_ne (η : Env) (k : Nat) (v : Value) (cs : List Value) (j : Nat) (h : j ≠ k) : (η.upd k v cs).val j = η.val j ∧ (η.upd k v cs).cel j = η.cel j := by simp [Env.upd, h]

section
variable {P : Program} {Γ : Tys} {w0 : Base} {w w' : World} {ob : Nat → Prop} {st : St} {a : Act} {η : Env}

/-- a row is made; rows that are gone from the state may have gone over into it -/
theorem SRep.newRow (h : SRep w0 ob st a w η) {hp1 : List (Nat × ARow)} (hsub : ∀ j r, look hp1 j = some r → look st.hp j = some r) {r : ARow} {v : Value} {cs : List Value} (hw : Below w.heap.size w w')
    (hnd : (bsOf (η.upd st.nx v cs) st.nx r).Nodup)
    (hfr : ∀ b, b ∈ bsOf (η.upd st.nx v cs) st.nx r → (∃ j r0, look st.hp j = some r0 ∧ b ∈ bsOf η j r0 ∧ look hp1 j = none) ∨ w.heap.size ≤ b)
    (hrow : Keeps w (badOf ob st.hp η) w' (badOf ob ((st.nx, r) :: hp1) (η.upd st.nx v cs)) →
      RowRep w' w0.B (badOf ob ((st.nx, r) :: hp1) (η.upd st.nx v cs)) ((st.nx, r) :: hp1) (st.nx + 1) (η.upd st.nx v cs) st.nx r) :
    SRep w0 ob { st with hp := (st.nx, r) :: hp1, nx := st.nx + 1 } a w' (η.upd st.nx v cs) := by
  have hl : ∀ j r1, j ≠ st.nx → look ((st.nx, r) :: hp1) j = some r1 → look st.hp j = some r1 := fun j r1 hj hr => by
    rw [look_cons, if_neg (Ne.symm hj)] at hr; exact hsub j r1 hr
  have hok : ∀ j, j < st.nx → OwnOk st.hp η ((st.nx, r) :: hp1) (η.upd st.nx v cs) j := fun j hj =>
    OwnOk.of (fun r' hr' => ⟨r', hl j r' (by omega) hr', rfl⟩) (upd_ne _ _ _ _ j (by omega)).1 (upd_ne _ _ _ _ j (by omega)).2
  have hsk : ∀ j, j < st.nx → SubOk st.hp η ((st.nx, r) :: hp1) (η.upd st.nx v cs) j := fun j hj =>
    SubOk.of (fun r' hr' => ⟨r', hl j r' (by omega) hr', rfl⟩) (upd_ne _ _ _ _ j (by omega)).2
  obtain ⟨hh, hk⟩ := HRep.step (k := st.nx) (hp' := (st.nx, r) :: hp1) (nx' := st.nx + 1) (η' := η.upd st.nx v cs) (w' := w') h.heap (fun _ => true) (fun _ => true) r (by omega) (by omega)
    (fun j r1 hj hr => ⟨r1, hl j r1 hj hr, (rowflt_true r1).symm⟩) (by rw [look_cons, if_pos rfl]) (fun j hj => upd_ne _ _ _ _ j hj)
    (fun b hb _ => hw.block b hb) (fun j hj _ => hok j hj) (fun j hj _ => hsk j hj) hnd
    (fun b hb => by
      rcases hfr b hb with ⟨j, r0, h1, h2, h3⟩ | h1
      · refine .inl ⟨j, r0, h1, h2, .inr ?_⟩
        have := h.heap.lt j r0 h1
        rw [look_cons, if_neg (by omega)]; exact h3
      · exact .inr h1) hrow
  have := h.heapStep (fun _ => true) (fun _ => true) (hw.mono h.wB) hh hk (by omega) (fun j hj _ => hok j hj) (fun j hj _ => hsk j hj)
  rwa [fltS_true] at this

theorem below_alloc (w : World) (o : Obj) : Below w.heap.size w (w.alloc o) := (Below.refl _ _).alloc (Nat.le_refl _) o

theorem own_new {w : World} {B e : Nat} {cs : List Value} (hB : B ≤ w.heap.size) (hm : cs.length ≤ maxLen) :
    (w.alloc (.cells cs.toArray e)).ownsRow B e 1 (.slice (some ⟨w.heap.size, 0, none⟩) cs.length cs.length) cs.length cs :=
  ⟨by simp, .inr ⟨w.heap.size, cs.length, cs.toArray, rfl, hB, Go.heap_alloc_new w _, Nat.le_refl _, hm, by simp, by simp⟩⟩

theorem heap_new (w : World) (o : Obj) : (w.alloc o).heap[w.heap.size]? = some o := Go.heap_alloc_new w o

theorem blk_new {B : Nat} {n c : Nat} : blk (.slice (some ⟨B, 0, none⟩) n c) = [B] := rfl

theorem wB (h : SRep w0 ob st a w η) : w0.B ≤ w.heap.size := h.wB

/-- a row of integers is made -/
theorem SRep.newInts (h : SRep w0 ob st a w η) {e : Nat} {k : IntKind} {l : List Int} (hm : l.length ≤ maxLen) :
    ∃ η', SRep w0 ob (st.new (.ints e k l)) a (w.alloc (.cells (l.map (Value.int k)).toArray e)) η' ∧
      VR (w.alloc (.cells (l.map (Value.int k)).toArray e)) ob (st.new (.ints e k l)) η' (.own st.nx) (.slice (some ⟨w.heap.size, 0, none⟩) l.length l.length) := by
  have hs := h.newRow (r := .ints e k l) (v := .slice (some ⟨w.heap.size, 0, none⟩) l.length l.length) (cs := l.map (Value.int k)) (w' := w.alloc (.cells (l.map (Value.int k)).toArray e)) (hp1 := st.hp)
    (fun _ _ h => h) (below_alloc _ _) (by simp [bsOf, upd_val, ARow.kind, blk]) (fun b hb => by simp [bsOf, upd_val, ARow.kind, blk] at hb; exact .inr (by omega))
    (fun _ => by
      refine ⟨?_, upd_cel _ _ _ _⟩
      rw [upd_val]
      have := own_new (e := e) (cs := l.map (Value.int k)) (wB h) (by simpa using hm)
      simp only [List.length_map] at this
      exact this)
  refine ⟨_, hs, by simp only [St.new]; omega, fun r hr => ?_⟩
  simp only [St.new, look_cons, if_true, Option.some.injEq] at hr
  subst hr
  exact ⟨by simp [ARow.kind], by rw [upd_val]⟩

/-- a variable's cells are made -/
theorem SRep.newCells (h : SRep w0 ob st a w η) {e : Nat} {l : List AVal} {cs : List Value} (hr : VRs w ob st η l cs) (hpos : 0 < l.length) :
    ∃ η', SRep w0 ob (st.new (.cells e l)) a (w.alloc (.cells cs.toArray e)) η' ∧
      VR (w.alloc (.cells cs.toArray e)) ob (st.new (.cells e l)) η' (.ptr st.nx 0) (.pointer (some ⟨w.heap.size, 0, none⟩)) := by
  have hlen := VReps.length hr
  have hs := h.newRow (r := .cells e l) (v := .pointer (some ⟨w.heap.size, 0, none⟩)) (cs := cs) (w' := w.alloc (.cells cs.toArray e)) (hp1 := st.hp)
    (fun _ _ h => h) (below_alloc _ _) (by simp [bsOf, upd_val, ARow.kind, blk]) (fun b hb => by simp [bsOf, upd_val, ARow.kind, blk] at hb; exact .inr (by omega))
    (fun hk => by
      refine ⟨w.heap.size, upd_val _ _ _ _, wB h, by rw [upd_cel]; exact heap_new _ _, ?_⟩
      rw [upd_cel]
      refine VReps.frame hk (by omega) (fun j hj => ?_) (fun j hj => ?_) hr
      · exact OwnOk.of (fun r' hr' => ⟨r', by rw [look_cons, if_neg (by omega)] at hr'; exact hr', rfl⟩) (upd_ne _ _ _ _ j (by omega)).1 (upd_ne _ _ _ _ j (by omega)).2
      · exact SubOk.of (fun r' hr' => ⟨r', by rw [look_cons, if_neg (by omega)] at hr'; exact hr', rfl⟩) (upd_ne _ _ _ _ j (by omega)).2)
  refine ⟨_, hs, by simp only [St.new]; omega, fun r hr => ?_⟩
  rw [upd_cel, upd_val]
  exact ⟨by omega, w.heap.size, rfl, rfl⟩

/-- a row of rows is made -/
theorem SRep.newRows (h : SRep w0 ob st a w η) {hp1 : List (Nat × ARow)} (hsub : ∀ j r, look hp1 j = some r → look st.hp j = some r) {e e1 : Nat} {m : List (List Int)} {cs : List Value} (hm : m.length ≤ maxLen) (hF : F2 (OwnInts w w0.B e1 .i64) m cs)
    (hnd : (cs.flatMap blk).Nodup) (hfr : ∀ b, b ∈ cs.flatMap blk → ∃ j r0, look st.hp j = some r0 ∧ b ∈ bsOf η j r0 ∧ look hp1 j = none) :
    ∃ η', SRep w0 ob { st with hp := (st.nx, .rows e e1 true m) :: hp1, nx := st.nx + 1 } a (w.alloc (.cells cs.toArray e)) η' ∧
      VR (w.alloc (.cells cs.toArray e)) ob { st with hp := (st.nx, .rows e e1 true m) :: hp1, nx := st.nx + 1 } η' (.own st.nx) (.slice (some ⟨w.heap.size, 0, none⟩) m.length m.length) := by
  have hlen := F2.length hF
  have hlt : ∀ b, b ∈ cs.flatMap blk → b < w.heap.size := fun b hb => by
    obtain ⟨j, r0, h1, h2, _⟩ := hfr b hb
    exact ((h.heap.row j r0 h1).lt b h2).2
  have hbs : bsOf (η.upd st.nx (.slice (some ⟨w.heap.size, 0, none⟩) m.length m.length) cs) st.nx (.rows e e1 true m) = w.heap.size :: cs.flatMap blk := by
    simp [bsOf, upd_val, upd_cel, ARow.kind, blk]
  have hs := h.newRow (r := .rows e e1 true m) (v := .slice (some ⟨w.heap.size, 0, none⟩) m.length m.length) (cs := cs) (w' := w.alloc (.cells cs.toArray e)) (hp1 := hp1)
    hsub (below_alloc _ _) (by rw [hbs]; exact List.nodup_cons.2 ⟨fun hb => by have := hlt _ hb; omega, hnd⟩)
    (fun b hb => by
      rw [hbs] at hb
      rcases List.mem_cons.1 hb with rfl | hb
      · exact .inr (Nat.le_refl _)
      · exact .inl (hfr b hb))
    (fun _ => by
      refine ⟨?_, ?_⟩
      · rw [upd_val, upd_cel, hlen]
        exact own_new (wB h) (by omega)
      · rw [upd_cel]
        refine F2.imp (fun l v hv ho => ownsRow_same ho (fun b hb => ?_)) hF
        exact (below_alloc w _).block b (ownsRow_lt ho b hb).2)
  refine ⟨_, hs, by simp only; omega, fun r hr => ?_⟩
  simp only [look_cons, if_true, Option.some.injEq] at hr
  subst hr
  exact ⟨by simp [ARow.kind], by rw [upd_val]⟩

/-- a row of shared rows is made -/
theorem SRep.newShared (h : SRep w0 ob st a w η) {e e1 : Nat} {m : List (List Int)} {cs : List Value} (hm : m.length ≤ maxLen) (hF : F2 (SInts w (badOf ob st.hp η) .i64) m cs) :
    ∃ η', SRep w0 ob (st.new (.rows e e1 false m)) a (w.alloc (.cells cs.toArray e)) η' ∧
      VR (w.alloc (.cells cs.toArray e)) ob (st.new (.rows e e1 false m)) η' (.own st.nx) (.slice (some ⟨w.heap.size, 0, none⟩) m.length m.length) := by
  have hlen := F2.length hF
  have hs := h.newRow (r := .rows e e1 false m) (v := .slice (some ⟨w.heap.size, 0, none⟩) m.length m.length) (cs := cs) (w' := w.alloc (.cells cs.toArray e)) (hp1 := st.hp)
    (fun _ _ h => h) (below_alloc _ _) (by simp [bsOf, upd_val, ARow.kind, blk]) (fun b hb => by simp [bsOf, upd_val, ARow.kind, blk] at hb; exact .inr (by omega))
    (fun hk => by
      refine ⟨?_, ?_⟩
      · rw [upd_val, upd_cel, hlen]
        exact own_new (wB h) (by omega)
      · rw [upd_cel]
        exact F2.imp (fun l v hv ho => ho.keeps hk) hF)
  refine ⟨_, hs, by simp only [St.new]; omega, fun r hr => ?_⟩
  simp only [St.new, look_cons, if_true, Option.some.injEq] at hr
  subst hr
  exact ⟨by simp [ARow.kind], by rw [upd_val]⟩

theorem own_newN {w : World} {B e n sz : Nat} {cs : List Value} (hB : B ≤ w.heap.size) (hm : n ≤ maxLen) (hl : cs.length = n * sz) :
    (w.alloc (.cells cs.toArray e)).ownsRow B e sz (.slice (some ⟨w.heap.size, 0, none⟩) n n) n cs :=
  ⟨hl, .inr ⟨w.heap.size, n, cs.toArray, rfl, hB, Go.heap_alloc_new w _, Nat.le_refl _, hm, by simpa using hl, by rw [← hl]; simp⟩⟩

theorem flat_len {s : Nat} {bad : Nat → Prop} : ∀ {L : List (List Int × List (List Int))} {css : List (List Value)}, F2 (SRec w bad s) L css → css.flatten.length = L.length * (s + 1)
  | [], [], _ => by simp
  | r :: L, cs :: css, h => by
    obtain ⟨⟨h1, u, h2, _⟩, h3⟩ := h
    have := flat_len h3
    rw [List.flatten_cons, List.length_append, this, h2]
    simp only [List.length_append, List.length_map, List.length_cons, List.length_nil, h1]
    rw [Nat.add_mul]; omega
  | [], _ :: _, h => h.elim
  | _ :: _, [], h => h.elim

/-- a row of structs is made -/
theorem SRep.newRecs (h : SRep w0 ob st a w η) {e s : Nat} {L : List (List Int × List (List Int))} {css : List (List Value)} (hm : L.length ≤ maxLen) (hF : F2 (SRec w (badOf ob st.hp η) s) L css) :
    ∃ η', SRep w0 ob (st.new (.recs e s L)) a (w.alloc (.cells css.flatten.toArray e)) η' ∧
      VR (w.alloc (.cells css.flatten.toArray e)) ob (st.new (.recs e s L)) η' (.own st.nx) (.slice (some ⟨w.heap.size, 0, none⟩) L.length L.length) := by
  have hs := h.newRow (r := .recs e s L) (v := .slice (some ⟨w.heap.size, 0, none⟩) L.length L.length) (cs := css.flatten) (w' := w.alloc (.cells css.flatten.toArray e)) (hp1 := st.hp)
    (fun _ _ h => h) (below_alloc _ _) (by simp [bsOf, upd_val, ARow.kind, blk]) (fun b hb => by simp [bsOf, upd_val, ARow.kind, blk] at hb; exact .inr (by omega))
    (fun hk => by
      refine ⟨?_, css, upd_cel _ _ _ _, F2.imp (fun l v hv ho => ho.keeps hk) hF⟩
      rw [upd_val, upd_cel]
      exact own_newN (wB h) hm (flat_len hF))
  refine ⟨_, hs, by simp only [St.new]; omega, fun r hr => ?_⟩
  simp only [St.new, look_cons, if_true, Option.some.injEq] at hr
  subst hr
  exact ⟨by simp [ARow.kind], by rw [upd_val]⟩

/-- inner rows handed over -/
theorem takeRows_spec : ∀ {ps : List (Nat × AVal)} {st st' : St} {n e1 : Nat} {m : List (List Int)}, takeRows st e1 n ps = some (st', m) →
    ∃ ks : List Nat, st'.sz = st.sz ∧ st'.sl = st.sl ∧ st'.nx = st.nx ∧ (∀ j r, look st'.hp j = some r → look st.hp j = some r) ∧ (∀ j, j ∈ ks → look st'.hp j = none) ∧ ks.Nodup ∧
      F2 (fun k l => look st.hp k = some (.ints e1 .i64 l)) ks m ∧ ps = (ks.zipIdx n).map fun (k, i) => (i, AVal.own k)
  | [], st, st', n, e1, m, h => by
    simp only [takeRows, Option.some.injEq, Prod.mk.injEq] at h
    obtain ⟨rfl, rfl⟩ := h
    exact ⟨[], rfl, rfl, rfl, fun _ _ h => h, fun _ h => by simp at h, List.nodup_nil, trivial, rfl⟩
  | (i, .own k) :: r, st, st', n, e1, m, h => by
    simp only [takeRows] at h
    split at h
    case h_2 => cases h
    case h_1 hi =>
      have hi' := Nat.eq_of_beq_eq_true hi
      subst hi'
      split at h
      case h_2 => cases h
      case h_1 e2 l hl =>
        split at h
        case h_2 => cases h
        case h_1 he =>
          have he' := Nat.eq_of_beq_eq_true he
          subst he'
          split at h
          case h_2 => cases h
          case h_1 st1 m1 h1 =>
            simp only [Option.some.injEq, Prod.mk.injEq] at h
            obtain ⟨rfl, rfl⟩ := h
            obtain ⟨ks, a1, a2, a3, a4, a5, a6, a7, a8⟩ := takeRows_spec h1
            have a4' : ∀ j r, look st1.hp j = some r → look st.hp j = some r ∧ j ≠ k := fun j r hj => by
              have := a4 j r hj
              simp only [St.del] at this
              by_cases hjk : j = k
              · subst hjk; rw [look_rem] at this; cases this
              · rw [look_rem_ne _ _ _ hjk] at this; exact ⟨this, hjk⟩
            have hk : look st1.hp k = none := by
              cases hx : look st1.hp k with
              | none => rfl
              | some r => exact absurd rfl (a4' k r hx).2
            have hnk : k ∉ ks := fun hmem => by
              have : ∀ {ks : List Nat} {m : List (List Int)}, F2 (fun k l => look (st.del k).hp k = some (ARow.ints e2 .i64 l)) ks m → True := fun _ => trivial
              obtain ⟨idx, hidx⟩ := List.getElem?_of_mem hmem
              obtain ⟨l', _, hl'⟩ := F2.at a7 hidx
              simp only [St.del, look_rem] at hl'
              cases hl'
            refine ⟨k :: ks, a1, a2, a3, fun j r hj => (a4' j r hj).1, fun j hj => ?_, List.nodup_cons.2 ⟨hnk, a6⟩, ⟨hl, F2.imp' (fun a b ha hb => ?_) a7⟩, ?_⟩
            · rcases List.mem_cons.1 hj with rfl | hj
              · exact hk
              · exact a5 j hj
            · have hne : a ≠ k := fun e => hnk (e ▸ ha)
              simp only [St.del] at hb
              rwa [look_rem_ne _ _ _ hne] at hb
            · simp only [List.zipIdx_cons, List.map_cons]
              rw [a8]
  | (i, .un) :: r, _, _, _, _, _, h => by simp [takeRows] at h
  | (i, .c _) :: r, _, _, _, _, _, h => by simp [takeRows] at h
  | (i, .t _) :: r, _, _, _, _, _, h => by simp [takeRows] at h
  | (i, .ag _) :: r, _, _, _, _, _, h => by simp [takeRows] at h
  | (i, .tu _) :: r, _, _, _, _, _, h => by simp [takeRows] at h
  | (i, .sub _ _) :: r, _, _, _, _, _, h => by simp [takeRows] at h
  | (i, .ptr _ _) :: r, _, _, _, _, _, h => by simp [takeRows] at h
  | (i, .subp _ _ _) :: r, _, _, _, _, _, h => by simp [takeRows] at h
  | (i, .adr _ _) :: r, _, _, _, _, _, h => by simp [takeRows] at h
  | (i, .rp _ _) :: r, _, _, _, _, _, h => by simp [takeRows] at h
  | (i, .clo _ _) :: r, _, _, _, _, _, h => by simp [takeRows] at h
  | (i, .knot _ _ _) :: r, _, _, _, _, _, h => by simp [takeRows] at h
  | (i, .nul) :: r, _, _, _, _, _, h => by simp [takeRows] at h
end
end Go.Aw
