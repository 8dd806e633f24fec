/- Maps whose keys are structs (or integers): how a map's block reads as a plain list, and what a look-up and a store do. -/
import Derived.Maps.Keyed
import Derived.DeepKeys4
import Derived.WalkKit
import Derived.Carry
import Derived.WideKeyEntry
import Derived.Test.YtjoihijlcpnhoaaTownT
import Derived.Test.YtjoihijlcpnhoaaPlan
namespace Go.Proofs.Ytjoihijlcpnhoaa
open Go.ChangeMaps (setBlock heap_setBlock_same heap_setBlock_other modify_eq_set)

/-- A type of keys, and how plain keys lie in it. -/
structure KeyOK (P : Program) (k : TypeId) {κ : Type} (good : κ → Prop) (enc : κ → Value) : Prop where
  keyed : Maps.Keyed P k
  key : ∀ a, good a → ∃ l, keyOf P k (enc a) = some l
  inj : ∀ a b, enc a = enc b → a = b

/-- The value of a key. -/
def mget {κ β : Type} [DecidableEq κ] : List (κ × β) → κ → Option β
  | [], _ => none
  | (y, v) :: l, x => if x = y then some v else mget l x
/-- A new value of a key; a new key comes last. -/
def mput {κ β : Type} [DecidableEq κ] : List (κ × β) → κ → β → List (κ × β)
  | [], x, v => [(x, v)]
  | (y, u) :: l, x, v => if x = y then (y, v) :: l else (y, u) :: mput l x v

theorem mget_mput {κ β : Type} [DecidableEq κ] (l : List (κ × β)) (x y : κ) (v : β) : mget (mput l x v) y = if y = x then some v else mget l y := by
  induction l with
  | nil => simp [mput, mget]
  | cons p l ih =>
    obtain ⟨z, u⟩ := p
    simp only [mput]
    by_cases h : x = z
    · subst h
      by_cases h2 : y = x
      · subst h2; simp [mget]
      · simp [mget, h2]
    · simp only [if_neg h, mget]
      rw [ih]
      by_cases h2 : y = x
      · subst h2; simp [h]
      · simp [h2]

/-- The keys of a list are those of which we can speak. -/
def GoodKeys {κ β : Type} (good : κ → Prop) (l : List (κ × β)) : Prop := ∀ p ∈ l, good p.1
theorem GoodKeys.mput {κ β : Type} [DecidableEq κ] {good : κ → Prop} {x : κ} {v : β} (hx : good x) : ∀ {l : List (κ × β)}, GoodKeys good l → GoodKeys good (mput l x v)
  | [], _, p, hp => by
    simp only [Proofs.Ytjoihijlcpnhoaa.mput, List.mem_singleton] at hp
    subst hp; exact hx
  | (z, u) :: l, h, p, hp => by
    have hl : GoodKeys good l := fun q hq => h q (List.mem_cons_of_mem _ hq)
    unfold Proofs.Ytjoihijlcpnhoaa.mput at hp
    split at hp
    · rcases List.mem_cons.1 hp with rfl | hp
      · exact h (z, u) (by simp)
      · exact hl p hp
    · rcases List.mem_cons.1 hp with rfl | hp
      · exact h (z, u) (by simp)
      · exact GoodKeys.mput hx hl p hp

/-- The block b of w is a map that reads as the list. -/
def MapE {κ β : Type} (enc : κ → Value) (vl : β → Value) (w : World) (b : Nat) (l : List (κ × β)) : Prop :=
  ∃ es clock, w.heap[b]? = some (.map es clock) ∧ es.toList.map (fun e => (e.key, e.val)) = l.map (fun p => (enc p.1, vl p.2)) ∧ MapKept.Stamped es clock

theorem MapE.made {κ β : Type} (enc : κ → Value) (vl : β → Value) (w : World) : MapE enc vl (w.alloc (.map #[] 0)) w.heap.size [] :=
  ⟨#[], 0, (MapKept.heap_alloc w _).1, rfl, MapKept.stamped_empty 0⟩
theorem MapE.lt {κ β : Type} {enc : κ → Value} {vl : β → Value} {w : World} {b : Nat} {l : List (κ × β)} (h : MapE enc vl w b l) : b < w.heap.size := by
  obtain ⟨es, clock, hb, _⟩ := h
  exact (Array.getElem?_eq_some_iff.1 hb).1
theorem MapE.same {κ β : Type} {enc : κ → Value} {vl : β → Value} {w w' : World} {b : Nat} {l : List (κ × β)} (h : MapE enc vl w b l) (he : w'.heap[b]? = w.heap[b]?) : MapE enc vl w' b l := by
  obtain ⟨es, clock, hb, h1⟩ := h
  exact ⟨es, clock, he.trans hb, h1⟩

section
variable {P : Program} {k e t : TypeId} {κ β : Type} {good : κ → Prop} {enc : κ → Value} {vl : β → Value} {w : World} {b : Nat} {l : List (κ × β)}

/-- Where a key is found among entries that read as a list. -/
theorem find_list (K : KeyOK P k good enc) (hg : GoodKeys good l) {es : List MapEntry} (h : es.map (fun e => (e.key, e.val)) = l.map (fun p => (enc p.1, vl p.2))) (x : κ) (hx : good x) (w : World) :
    ((Instr.findKey k (enc x) es).run P w = .ok none w ∧ ∀ p ∈ l, p.1 ≠ x) ∨
    ∃ j e v, (Instr.findKey k (enc x) es).run P w = .ok (some (j, e.val)) w ∧ es[j]? = some e ∧ e.key = enc x ∧ e.val = vl v ∧ l[j]? = some (x, v) := by
  obtain ⟨lx, hlx⟩ := K.key x hx
  have hlen : es.length = l.length := by have := congrArg List.length h; simpa using this
  have hat : ∀ j (h1 : j < es.length) (h2 : j < l.length), es[j].key = enc l[j].1 ∧ es[j].val = vl l[j].2 := by
    intro j h1 h2
    have := congrArg (fun z => z[j]?) h
    simp only [List.getElem?_map, List.getElem?_eq_getElem h1, List.getElem?_eq_getElem h2, Option.map_some, Option.some.injEq, Prod.mk.injEq] at this
    exact this
  have hkeys : ∀ e ∈ es, ∃ l, keyOf P k e.key = some l := by
    intro e he
    obtain ⟨j, hj, rfl⟩ := List.getElem_of_mem he
    have hj2 : j < l.length := by omega
    rw [(hat j hj hj2).1]
    exact K.key _ (hg _ (List.getElem_mem hj2))
  rcases K.keyed.find w hlx es hkeys with ⟨h1, h2⟩ | ⟨j, e0, h1, h2, h3⟩
  · refine .inl ⟨h1, fun p hp e => ?_⟩
    obtain ⟨j, hj, rfl⟩ := List.getElem_of_mem hp
    have hj2 : j < es.length := by omega
    exact h2 _ (List.getElem_mem hj2) (by rw [(hat j hj2 hj).1, e])
  · obtain ⟨hj, e1⟩ := List.getElem?_eq_some_iff.1 h2
    have hj2 : j < l.length := by omega
    obtain ⟨a1, a2⟩ := hat j hj hj2
    rw [e1] at a1 a2
    have hx2 : l[j].1 = x := K.inj _ _ (a1.symm.trans h3)
    exact .inr ⟨j, e0, l[j].2, h1, h2, h3, a2, by rw [List.getElem?_eq_getElem hj2, ← hx2]⟩

/-- The keys are each there once. -/
def Apart (l : List (κ × β)) : Prop := (l.map Prod.fst).Nodup
theorem Apart.nil : Apart ([] : List (κ × β)) := List.nodup_nil
theorem GoodKeys.nil : GoodKeys good ([] : List (κ × β)) := by intro p hp; cases hp
/-- Keys that are not there are not among the entries. -/
theorem keys_not {es : List MapEntry} (h : es.map (fun e => (e.key, e.val)) = l.map (fun p => (enc p.1, vl p.2))) (K : KeyOK P k good enc) {x : κ} (h2 : ∀ p ∈ l, p.1 ≠ x) : ∀ e ∈ es, e.key ≠ enc x := by
  intro e he e1
  have hm : (e.key, e.val) ∈ es.map (fun e => (e.key, e.val)) := List.mem_map.2 ⟨e, he, rfl⟩
  rw [h] at hm
  obtain ⟨p, hp, e2⟩ := List.mem_map.1 hm
  simp only [Prod.mk.injEq] at e2
  exact h2 p hp (K.inj _ _ (e2.1.trans e1))

variable [DecidableEq κ]

theorem mget_none : ∀ {l : List (κ × β)} {x : κ}, (∀ p ∈ l, p.1 ≠ x) → mget l x = none
  | [], _, _ => rfl
  | (y, v) :: l, x, h => by
    have h1 := h (y, v) (by simp)
    unfold mget
    rw [if_neg (fun e => h1 e.symm)]
    exact mget_none (fun p hp => h p (List.mem_cons_of_mem _ hp))

theorem mget_at : ∀ {l : List (κ × β)} {x : κ} {v : β} {j : Nat}, Apart l → l[j]? = some (x, v) → mget l x = some v
  | [], _, _, _, _, h => by simp at h
  | (y, u) :: l, x, v, 0, _, h => by
    simp only [List.getElem?_cons_zero, Option.some.injEq, Prod.mk.injEq] at h
    obtain ⟨rfl, rfl⟩ := h
    simp [mget]
  | (y, u) :: l, x, v, j + 1, ha, h => by
    simp only [List.getElem?_cons_succ] at h
    unfold Apart at ha
    simp only [List.map_cons, List.nodup_cons] at ha
    have hm : x ∈ l.map Prod.fst := List.mem_map.2 ⟨(x, v), List.mem_of_getElem? h, rfl⟩
    have : ¬ x = y := fun e => ha.1 (e ▸ hm)
    unfold mget
    rw [if_neg this]
    exact mget_at ha.2 h
theorem mput_none : ∀ {l : List (κ × β)} {x : κ} {v : β}, (∀ p ∈ l, p.1 ≠ x) → mput l x v = l ++ [(x, v)]
  | [], _, _, _ => rfl
  | (y, u) :: l, x, v, h => by
    have h1 := h (y, u) (by simp)
    unfold mput
    rw [if_neg (fun e => h1 e.symm), mput_none (fun p hp => h p (List.mem_cons_of_mem _ hp))]
    rfl
theorem mput_at : ∀ {l : List (κ × β)} {x : κ} {u v : β} {j : Nat}, Apart l → l[j]? = some (x, u) → mput l x v = l.set j (x, v)
  | [], _, _, _, _, _, h => by simp at h
  | (y, z) :: l, x, u, v, 0, _, h => by
    simp only [List.getElem?_cons_zero, Option.some.injEq, Prod.mk.injEq] at h
    obtain ⟨rfl, rfl⟩ := h
    simp [mput]
  | (y, z) :: l, x, u, v, j + 1, ha, h => by
    simp only [List.getElem?_cons_succ] at h
    unfold Apart at ha
    simp only [List.map_cons, List.nodup_cons] at ha
    have hm : x ∈ l.map Prod.fst := List.mem_map.2 ⟨(x, u), List.mem_of_getElem? h, rfl⟩
    have : ¬ x = y := fun e => ha.1 (e ▸ hm)
    unfold mput
    rw [if_neg this, mput_at ha.2 h]
    rfl
theorem mput_fst (x : κ) (v : β) : ∀ (l : List (κ × β)), (mput l x v).map Prod.fst = if x ∈ l.map Prod.fst then l.map Prod.fst else l.map Prod.fst ++ [x]
  | [] => by simp [mput]
  | (z, m) :: l => by
    by_cases e : x = z
    · simp [mput, e]
    · rw [mput, if_neg e, List.map_cons, mput_fst x v l]
      by_cases e2 : x ∈ l.map Prod.fst
      · rw [if_pos e2, if_pos (by simp only [List.map_cons, List.mem_cons]; exact .inr e2)]; rfl
      · rw [if_neg e2, if_neg (by simp only [List.map_cons, List.mem_cons, not_or]; exact ⟨e, e2⟩)]; rfl
theorem Apart.mput {x : κ} {v : β} {l : List (κ × β)} (h : Apart l) : Apart (mput l x v) := by
  unfold Apart
  rw [mput_fst]
  split
  · exact h
  · rename_i hx
    exact List.nodup_append.2 ⟨h, by simp, fun a ha b hb => by simp only [List.mem_singleton] at hb; subst hb; intro e; subst e; exact hx ha⟩

/-- 'm[x]', with and without 'ok'. -/
theorem MapE.look (K : KeyOK P k good enc) (ht : P.underlying t = some (.map k e)) (h : MapE enc vl w b l) (hg : GoodKeys good l) (ha : Apart l) {z : Value} (hz : (zeroValue e).run P w = .ok z w) (x : κ) (hx : good x) (c : Bool) :
    (Instr.lookup t (.map (some b)) (enc x) c).run P w = .ok (match mget l x with
      | some v => if c then .tuple #[vl v, .bool true] else vl v
      | none => if c then .tuple #[z, .bool false] else z) w := by
  obtain ⟨es, clock, hb, hl, _⟩ := h
  obtain ⟨lx, hlx⟩ := K.key x hx
  rcases find_list K hg hl x hx w with ⟨h1, h2⟩ | ⟨j, e0, v, h1, _, _, h4, h5⟩
  · rw [mget_none h2]
    simp [Instr.lookup, run_underlying ht, MapKept.run_getObj_map hb, K.keyed.check w _ hlx, h1, hz, Result.andThen]
  · rw [mget_at ha h5]
    simp [Instr.lookup, run_underlying ht, MapKept.run_getObj_map hb, K.keyed.check w _ hlx, h1, h4, Result.andThen]

/-- The old entries with a new one, or with another value. -/
theorem put_entries (K : KeyOK P k good enc) {es : Array MapEntry} {clock : Nat} (hl : es.toList.map (fun e => (e.key, e.val)) = l.map (fun p => (enc p.1, vl p.2))) (hs : MapKept.Stamped es clock) (x : κ) (v : β) (h2 : ∀ p ∈ l, p.1 ≠ x) :
    (es.push ⟨enc x, vl v, clock⟩).toList.map (fun e => (e.key, e.val)) = (mput l x v).map (fun p => (enc p.1, vl p.2)) ∧ MapKept.Stamped (es.push ⟨enc x, vl v, clock⟩) (clock + 1) := by
  refine ⟨?_, MapKept.stamped_push hs (keys_not hl K h2)⟩
  rw [mput_none h2]
  simp only [Array.toList_push, List.map_append, hl, List.map_cons, List.map_nil]
theorem set_entries {es : Array MapEntry} {clock : Nat} (hl : es.toList.map (fun e => (e.key, e.val)) = l.map (fun p => (enc p.1, vl p.2))) (hs : MapKept.Stamped es clock) (ha : Apart l) {x : κ} {u : β} (v : β) {j : Nat} {e0 : MapEntry}
    (h2 : es.toList[j]? = some e0) (h3 : e0.key = enc x) (h5 : l[j]? = some (x, u)) :
    (es.modify j (fun e' => { e' with key := enc x, val := vl v })).toList.map (fun e => (e.key, e.val)) = (mput l x v).map (fun p => (enc p.1, vl p.2)) ∧ MapKept.Stamped (es.modify j (fun e' => { e' with key := enc x, val := vl v })) clock := by
  refine ⟨?_, MapKept.stamped_modify hs j _ (fun _ _ => rfl) (fun e _ he => ?_)⟩
  · rw [mput_at ha h5, Array.toList_modify, modify_eq_set _ _ _ _ h2, List.map_set, List.map_set, hl]
  · have : es[j]? = some e0 := by simpa using h2
    rw [this] at he
    cases he
    exact h3.symm

/-- 'm[x] = v': another world, in which the block reads as the new list; no other block has turned. -/
theorem MapE.put (K : KeyOK P k good enc) (ht : P.underlying t = some (.map k e)) (h : MapE enc vl w b l) (hg : GoodKeys good l) (ha : Apart l) (x : κ) (hx : good x) (v : β) :
    ∃ o, (Instr.mapUpdate t (.map (some b)) (enc x) (vl v)).run P w = .ok () (setBlock w b o) ∧ MapE enc vl (setBlock w b o) b (mput l x v) ∧ ∀ i, i ≠ b → (setBlock w b o).heap[i]? = w.heap[i]? := by
  obtain ⟨es, clock, hb, hl, hs⟩ := h
  obtain ⟨lx, hlx⟩ := K.key x hx
  rcases find_list K hg hl x hx w with ⟨h1, h2⟩ | ⟨j, e0, u, h1, h2, h3, _, h5⟩
  · refine ⟨.map (es.push ⟨enc x, vl v, clock⟩) (clock + 1), ?_, ⟨_, _, heap_setBlock_same hb _, put_entries K hl hs x v h2⟩, fun i hi => heap_setBlock_other hb _ hi⟩
    simp [Instr.mapUpdate, run_underlying ht, MapKept.run_getObj_map hb, K.keyed.check w false hlx, h1, MapKept.run_setObj_map _ hb, Result.andThen, setBlock]
  · refine ⟨.map (es.modify j (fun e' => { e' with key := enc x, val := vl v })) clock, ?_, ⟨_, _, heap_setBlock_same hb _, set_entries hl hs ha v h2 h3 h5⟩, fun i hi => heap_setBlock_other hb _ hi⟩
    have h2' : es[j]? = some e0 := by simpa using h2
    simp [Instr.mapUpdate, run_underlying ht, MapKept.run_getObj_map hb, K.keyed.check w false hlx, h1, h2', h3, K.keyed.stays w hlx, MapKept.run_setObj_map _ hb, Result.andThen, setBlock]

theorem size_setBlock (w : World) (b : Nat) (o : Obj) : (setBlock w b o).heap.size = w.heap.size := by simp [setBlock]

/-- 'm[x] op= v': the entry is looked for or laid (w1), then the value is stored (w2). -/
theorem MapE.entry (K : KeyOK P k good enc) (ht : P.underlying t = some (.map k e)) (h : MapE enc vl w b l) (hg : GoodKeys good l) (ha : Apart l) {z : β} (hz : ∀ u : World, (zeroValue e).run P u = .ok (vl z) u) (x : κ) (hx : good x) :
    ∃ (st : Nat) (o1 : Obj), (Instr.mapEntry t (.map (some b)) (enc x)).run P w = .ok (.tuple #[vl ((mget l x).getD z), .int .i64 st]) (setBlock w b o1) ∧
      MapE enc vl (setBlock w b o1) b (mput l x ((mget l x).getD z)) ∧
      ∀ v, ∃ o2, (Instr.entryStore t (.map (some b)) (.int .i64 st) (vl v)).run P (setBlock w b o1) = .ok () (setBlock (setBlock w b o1) b o2) ∧ MapE enc vl (setBlock (setBlock w b o1) b o2) b (mput l x v) := by
  obtain ⟨es, clock, hb, hl, hs⟩ := h
  obtain ⟨lx, hlx⟩ := K.key x hx
  obtain ⟨s1, s2, _⟩ := (MapKept.stamped_iff es clock).1 hs
  rcases find_list K hg hl x hx w with ⟨h1, h2⟩ | ⟨j, e0, u, h1, h2, h3, h4, h5⟩
  · rw [mget_none h2]
    refine ⟨clock, .map (es.push ⟨enc x, vl z, clock⟩) (clock + 1), ?_, ⟨_, _, heap_setBlock_same hb _, put_entries K hl hs x z h2⟩, fun v => ?_⟩
    · simp [Instr.mapEntry, run_underlying ht, MapKept.run_getObj_map hb, K.keyed.check w false hlx, h1, hz, MapKept.run_setObj_map _ hb, Result.andThen, setBlock, goInt]
    · have hw2 := heap_setBlock_same hb (.map (es.push ⟨enc x, vl z, clock⟩) (clock + 1))
      have hidx : (es.push ⟨enc x, vl z, clock⟩).findIdx? (fun e => ((e.born : Nat) : Int) == ((clock : Nat) : Int)) = some es.size := by
        rw [WideElems.findIdx_arr]
        exact WideElems.findIdx_born (l := (es.push ⟨enc x, vl z, clock⟩).toList) (j := es.size) (e0 := ⟨enc x, vl z, clock⟩) (by
          simp only [Array.toList_push, List.map_append, List.map_cons, List.map_nil]
          refine List.nodup_append.2 ⟨s2, by simp, fun a ha c hc e1 => ?_⟩
          simp only [List.mem_singleton] at hc
          obtain ⟨y, hy, rfl⟩ := List.mem_map.1 ha
          have := s1 y hy
          omega) (by simp)
      have hmod : (es.push ⟨enc x, vl z, clock⟩).modify es.size (fun e => { e with val := vl v }) = es.push ⟨enc x, vl v, clock⟩ := by
        apply Array.ext'
        rw [Array.toList_modify, Array.toList_push, Array.toList_push, ← Array.length_toList, WideElems.modify_last]
      generalize setBlock w b (.map (es.push ⟨enc x, vl z, clock⟩) (clock + 1)) = W1 at hw2 ⊢
      refine ⟨.map (es.push ⟨enc x, vl v, clock⟩) (clock + 1), ?_, ⟨_, _, heap_setBlock_same hw2 _, put_entries K hl hs x v h2⟩⟩
      simp [Instr.entryStore, MapKept.run_getObj_map hw2, asInt, asIntOf, hidx, hmod, MapKept.run_setObj_map _ hw2, Result.andThen, setBlock]
  · rw [mget_at ha h5]
    have hj : es[j]? = some e0 := by simpa using h2
    have hsame : es.modify j (fun e => { e with key := enc x }) = es := by
      apply Array.ext'
      rw [Array.toList_modify, modify_eq_set _ _ _ _ h2]
      have : ({ e0 with key := enc x } : MapEntry) = e0 := by rw [← h3]
      rw [this]
      exact WideElems.set_self _ _ _ h2
    have hput : mput l x u = l := by
      rw [mput_at ha h5]
      exact WideElems.set_self _ _ _ h5
    refine ⟨e0.born, .map es clock, ?_, ⟨es, clock, heap_setBlock_same hb _, by simp only [Option.getD_some]; rw [hput]; exact hl, hs⟩, fun v => ?_⟩
    · simp [Instr.mapEntry, run_underlying ht, MapKept.run_getObj_map hb, K.keyed.check w false hlx, h1, hj, h3, h4, K.keyed.stays w hlx, hsame, MapKept.run_setObj_map _ hb, Result.andThen, setBlock, goInt]
    · have hw2 := heap_setBlock_same hb (.map es clock)
      have hidx : es.findIdx? (fun e => ((e.born : Nat) : Int) == ((e0.born : Nat) : Int)) = some j := by
        rw [WideElems.findIdx_arr]
        exact WideElems.findIdx_born s2 h2
      have hmod : es.modify j (fun e => { e with val := vl v }) = es.modify j (fun e' => { e' with key := enc x, val := vl v }) := by
        apply Array.ext'
        rw [Array.toList_modify, Array.toList_modify, modify_eq_set _ _ _ _ h2, modify_eq_set _ _ _ _ h2, ← h3]
      generalize setBlock w b (.map es clock) = W1 at hw2 ⊢
      refine ⟨.map (es.modify j (fun e' => { e' with key := enc x, val := vl v })) clock, ?_, ⟨_, _, heap_setBlock_same hw2 _, set_entries hl hs ha v h2 h3 h5⟩⟩
      simp [Instr.entryStore, MapKept.run_getObj_map hw2, asInt, asIntOf, hidx, hmod, MapKept.run_setObj_map _ hw2, Result.andThen, setBlock]

end

/-- 'm[x] op= ..' at its two operations, for the walk. -/
theorem wpList_mapEntry_run {P : Program} (w w1 : World) {ops : Array Oper} {rest : List Oper} {o : Oper} {a : Act} {Q : Exit → Act → World → Prop}
    (hg : o.guard = none) (m x : Operand) (t : TypeId) (hop : o.op = Op.mapEntry t m x) (mv kv v : Value) (hm : a.eval m = mv) (hx : a.eval x = kv)
    (hrun : (Instr.mapEntry t mv kv).run P w = .ok v w1) (hK : wpList P ops Q rest (a.put o.dst v) w1) : wpList P ops Q (o :: rest) a w := by
  refine wpList_plain hg fun K' hK' => ?_
  unfold Oper.wp
  simp [execOp, hop, hm, hx, hrun, Result.andThen]
  exact hK' _ _ hK
theorem wpList_entryStore_run {P : Program} (w w1 : World) {ops : Array Oper} {rest : List Oper} {o : Oper} {a : Act} {Q : Exit → Act → World → Prop}
    (hg : o.guard = none) (m s x : Operand) (t : TypeId) (hop : o.op = Op.entryStore t m s x) (mv sv v : Value) (hm : a.eval m = mv) (hs : a.eval s = sv) (hx : a.eval x = v)
    (hrun : (Instr.entryStore t mv sv v).run P w = .ok () w1) (hK : wpList P ops Q rest (a.put o.dst undef) w1) : wpList P ops Q (o :: rest) a w := by
  refine wpList_plain hg fun K' hK' => ?_
  unfold Oper.wp
  simp [execOp, hop, hm, hs, hx, hrun, Result.andThen]
  exact hK' _ _ hK

end Go.Proofs.Ytjoihijlcpnhoaa
namespace Go.Proofs.Ytjoihijlcpnhoaa
open Go.RowKit

/-- An integer of 64 bits. -/
def I64 (n : Int) : Prop := -9223372036854775808 ≤ n ∧ n ≤ 9223372036854775807
theorem wf_i64 {n : Int} (h : I64 n) : (Lit.int .i64 n).wf = true := by
  unfold I64 at h
  have h1 : IntKind.i64.min = -9223372036854775808 := by decide
  have h2 : IntKind.i64.max = 9223372036854775807 := by decide
  show (decide (IntKind.i64.min ≤ n) && decide (n ≤ IntKind.i64.max)) = true
  rw [h1, h2]
  simp [h]

def goodT (x : Thing) : Prop := I64 x.kind ∧ I64 x.id ∧ I64 x.step
def encT (x : Thing) : Value := .agg #[.int .i64 x.kind, .int .i64 x.id, .int .i64 x.step]
def intV (n : Int) : Value := .int .i64 n

theorem laidOutP : laidOutB Try.prog = true := by kernel_rfl
theorem thing_row : (132 : TypeId) < Try.prog.types.size := of_decide_eq_true (by kernel_rfl)
theorem thing_wide : (match Try.prog.underlying 132 with | some (.array _ _) | some (.struct _) => true | _ => false) = true := by rw [Try.underlying132]
set_option maxRecDepth 100000 in
theorem thing_law : WideMaps.KeyLaw Try.prog 132 := deep_law_laid laidOutP (m := 2) (by omega) thing_row (by kernel_rfl) thing_wide
theorem int_cells : Try.prog.cellsOf 3 = 1 := by kernel_rfl
theorem thing_cells : Try.prog.cellsOf 132 = 3 := by kernel_rfl
theorem types_size : ∃ m, Try.prog.types.size = m + 1 := ⟨Try.prog.types.size - 1, by kernel_rfl⟩

theorem thing_key (x : Thing) (h : goodT x) : ∃ l, keyOf Try.prog 132 (encT x) = some l := by
  obtain ⟨m, hm⟩ := types_size
  obtain ⟨h0, h1, h2⟩ := h
  have hkt : Try.prog.keyType 132 = true := by kernel_rfl
  have hfm : (encT x).formed Try.prog 132 = true := by simp [encT, Value.formed, Try.underlying132, thing_cells]
  have hc : (encT x).cells.toList = [.int .i64 x.kind, .int .i64 x.id, .int .i64 x.step] := rfl
  have hl : Try.prog.keyLits (Try.prog.types.size + 1) 132 [.int .i64 x.kind, .int .i64 x.id, .int .i64 x.step] = some [.int .i64 x.kind, .int .i64 x.id, .int .i64 x.step] := by
    rw [hm]
    simp only [Program.keyLits, Try.underlying132]
    simp [thing_cells, int_cells, wf_i64 h0, wf_i64 h1, wf_i64 h2]
  unfold keyOf
  rw [Try.underlying132]
  simp only [hkt, hfm, hc, hl, Bool.and_self, if_true, Option.map_some]
  exact ⟨_, rfl⟩

theorem thing_ok : KeyOK Try.prog 132 goodT encT := ⟨Maps.Keyed.of_law thing_law, thing_key, fun a b h => by
  obtain ⟨k, i, s⟩ := a
  obtain ⟨k', i', s'⟩ := b
  simp [encT] at h
  obtain ⟨rfl, rfl, rfl⟩ := h
  rfl⟩

theorem kget_mget (l : List (Thing × Int)) (x : Thing) : kget l x = (mget l x).getD 0 := by
  induction l with
  | nil => rfl
  | cons p l ih =>
    obtain ⟨y, n⟩ := p
    unfold kget mget
    split
    · rfl
    · exact ih
theorem kadd_mput (l : List (Thing × Int)) (x : Thing) (n : Int) : kadd l x n = mput l x (kget l x + n) := by
  induction l with
  | nil => simp [kadd, mput, kget]
  | cons p l ih =>
    obtain ⟨y, m⟩ := p
    unfold kadd mput kget
    by_cases h : x = y
    · simp [h]
    · simp [h, ih]

/-- The account in memory. -/
def acCells (T : Town) (a1 a2 a3 a4 : Option Addr) (c1 c2 c3 c4 : Nat) (mb : Nat) (a : Acc) : Array Value :=
  #[.int .i64 T.steps, .slice a1 T.places.length c1, .slice a2 T.ways.length c2, .slice a3 T.groups.length c3, .slice a4 T.vehicles.length c4, .map (some mb), .bool a.over, .bool a.full]
structure AccM (T : Town) (a1 a2 a3 a4 : Option Addr) (c1 c2 c3 c4 : Nat) (ab mb : Nat) (w : World) (a : Acc) : Prop where
  blk : w.heap[ab]? = some (.cells (acCells T a1 a2 a3 a4 c1 c2 c3 c4 mb a) 147 (0, 0))
  mp : MapE encT intV w mb a.used
  ne : ab ≠ mb
  good : AccG a
  keys : GoodKeys goodT a.used

theorem AccM.same {T : Town} {a1 a2 a3 a4 : Option Addr} {c1 c2 c3 c4 ab mb : Nat} {w w' : World} {a : Acc} (h : AccM T a1 a2 a3 a4 c1 c2 c3 c4 ab mb w a) (h1 : w'.heap[ab]? = w.heap[ab]?) (h2 : w'.heap[mb]? = w.heap[mb]?) :
    AccM T a1 a2 a3 a4 c1 c2 c3 c4 ab mb w' a := ⟨h1.trans h.blk, h.mp.same h2, h.ne, h.good, h.keys⟩
theorem AccM.below {T : Town} {a1 a2 a3 a4 : Option Addr} {c1 c2 c3 c4 ab mb : Nat} {w w' : World} {a : Acc} (h : AccM T a1 a2 a3 a4 c1 c2 c3 c4 ab mb w a) (hb : Below w.heap.size w w') : AccM T a1 a2 a3 a4 c1 c2 c3 c4 ab mb w' a :=
  h.same (hb.block _ (lt_of_heap h.blk)) (hb.block _ h.mp.lt)

theorem most_small {T : Town} (hG : TownG T) {x : Thing} (hx : ThingG T x) : I64 (mostT T x) := by
  have := mostT_le hG hx
  unfold I64; omega

set_option maxHeartbeats 2000000 in
set_option maxRecDepth 100000 in
theorem most_any (T : Town) (a1 a2 a3 a4 : Option Addr) (c1 c2 c3 c4 : Nat) (B ab mb : Nat) (x : Thing) (w : World) (a : Acc) (hT : TownM B w a1 a2 a3 a4 T) (hB : B ≤ w.heap.size) (hx : ThingG T x) (ha : AccM T a1 a2 a3 a4 c1 c2 c3 c4 ab mb w a) :
    Calls Try.prog 82 #[.pointer (some ⟨ab, 0, none⟩), encT x] w fun e w' => e = .returned (.int .i64 (mostT T x)) ∧ Below w.heap.size w w' := by
  obtain ⟨k, id, st⟩ := x
  obtain ⟨⟨k0, k4⟩, hg, hw, hp⟩ := hx
  simp only at k0 k4 hg hw hp
  have hac := cells_of ha.blk
  have hal := lt_of_heap ha.blk
  simp only [acCells] at hac
  have hl1 := hT.places.1
  have hl2 := hT.ways.1
  have hl3 := hT.groups.1
  unfold encT
  obtain ⟨_, _, _, _, _, _, _⟩ := lts hal
  have hk : k = 0 ∨ k = 1 ∨ k = 2 ∨ k = 3 ∨ k = 4 := by omega
  rcases hk with rfl | rfl | rfl | rfl | rfl
  · obtain ⟨i0, i1⟩ := hg rfl
    obtain ⟨b, off, rfl, hb, he⟩ := hT.groups.at i0 i1 Group.z
    have hbw : b < w.heap.size := by omega
    obtain ⟨g, hg'⟩ : ∃ g, g = T.gr id := ⟨_, rfl⟩
    have he' : GroupE w b (off + id.toNat * 3) g := by rw [hg']; exact he
    clear he
    obtain ⟨e0, e1, e2⟩ := he'
    have hv : mostT T ⟨0, id, st⟩ = g.count := by rw [hg']; rfl
    rw [hv]
    have Hha := Lib.hid ha; clear ha; have HhT := Lib.hid hT; clear hT; have Hhg' := Lib.hid hg'; clear hg'; have Hhv := Lib.hid hv; clear hv
    go_enter Try.func82, Try.ntmps82
    go_wp2_with fail
    go_quiet (fail)
    go_wp2_with fail
    go_ret
    exact ⟨rfl, (by repeat (first | exact Below.refl _ _ | (refine bl_setCell ?_ _ _ ?_; rotate_left; focus (first | omega | (simp; done) | (simp; omega))) | refine bl_alloc ?_ _ | refine bl_step ?_ (by assumption) | refine bl_drew ?_ | refine bl_drewN ?_ _))⟩
  · obtain ⟨i0, i1⟩ := hw (.inl rfl)
    obtain ⟨b, off, rfl, hb, he⟩ := hT.ways.at i0 i1 Way.z
    have hbw : b < w.heap.size := by omega
    obtain ⟨g, hg'⟩ : ∃ g, g = T.wy id := ⟨_, rfl⟩
    have he' : WayE w b (off + id.toNat * 8) g := by rw [hg']; exact he
    clear he
    obtain ⟨e0, e1, e2, e3, e4, e5, e6, e7⟩ := he'
    have hv : mostT T ⟨1, id, st⟩ = g.room := by rw [hg']; rfl
    rw [hv]
    have Hha := Lib.hid ha; clear ha; have HhT := Lib.hid hT; clear hT; have Hhg' := Lib.hid hg'; clear hg'; have Hhv := Lib.hid hv; clear hv
    go_enter Try.func82, Try.ntmps82
    go_wp2_with fail
    go_quiet (fail)
    go_wp2_with fail
    go_ret
    exact ⟨rfl, (by repeat (first | exact Below.refl _ _ | (refine bl_setCell ?_ _ _ ?_; rotate_left; focus (first | omega | (simp; done) | (simp; omega))) | refine bl_alloc ?_ _ | refine bl_step ?_ (by assumption) | refine bl_drew ?_ | refine bl_drewN ?_ _))⟩
  · obtain ⟨i0, i1⟩ := hw (.inr rfl)
    obtain ⟨b, off, rfl, hb, he⟩ := hT.ways.at i0 i1 Way.z
    have hbw : b < w.heap.size := by omega
    obtain ⟨g, hg'⟩ : ∃ g, g = T.wy id := ⟨_, rfl⟩
    have he' : WayE w b (off + id.toNat * 8) g := by rw [hg']; exact he
    clear he
    obtain ⟨e0, e1, e2, e3, e4, e5, e6, e7⟩ := he'
    have hv : mostT T ⟨2, id, st⟩ = g.cars := by rw [hg']; rfl
    rw [hv]
    have Hha := Lib.hid ha; clear ha; have HhT := Lib.hid hT; clear hT; have Hhg' := Lib.hid hg'; clear hg'; have Hhv := Lib.hid hv; clear hv
    go_enter Try.func82, Try.ntmps82
    go_wp2_with fail
    go_quiet (fail)
    go_wp2_with fail
    go_ret
    exact ⟨rfl, (by repeat (first | exact Below.refl _ _ | (refine bl_setCell ?_ _ _ ?_; rotate_left; focus (first | omega | (simp; done) | (simp; omega))) | refine bl_alloc ?_ _ | refine bl_step ?_ (by assumption) | refine bl_drew ?_ | refine bl_drewN ?_ _))⟩
  · obtain ⟨i0, i1⟩ := hp (.inl rfl)
    obtain ⟨b, off, rfl, hb, he⟩ := hT.places.at i0 i1 Place.z
    have hbw : b < w.heap.size := by omega
    obtain ⟨g, hg'⟩ : ∃ g, g = T.pl id := ⟨_, rfl⟩
    have he' : PlaceE w b (off + id.toNat * 3) g := by rw [hg']; exact he
    clear he
    obtain ⟨e0, e1, e2⟩ := he'
    have hv : mostT T ⟨3, id, st⟩ = g.door := by rw [hg']; rfl
    rw [hv]
    have Hha := Lib.hid ha; clear ha; have HhT := Lib.hid hT; clear hT; have Hhg' := Lib.hid hg'; clear hg'; have Hhv := Lib.hid hv; clear hv
    go_enter Try.func82, Try.ntmps82
    go_wp2_with fail
    go_quiet (fail)
    go_wp2_with fail
    go_ret
    exact ⟨rfl, (by repeat (first | exact Below.refl _ _ | (refine bl_setCell ?_ _ _ ?_; rotate_left; focus (first | omega | (simp; done) | (simp; omega))) | refine bl_alloc ?_ _ | refine bl_step ?_ (by assumption) | refine bl_drew ?_ | refine bl_drewN ?_ _))⟩
  · obtain ⟨i0, i1⟩ := hp (.inr rfl)
    obtain ⟨b, off, rfl, hb, he⟩ := hT.places.at i0 i1 Place.z
    have hbw : b < w.heap.size := by omega
    obtain ⟨g, hg'⟩ : ∃ g, g = T.pl id := ⟨_, rfl⟩
    have he' : PlaceE w b (off + id.toNat * 3) g := by rw [hg']; exact he
    clear he
    obtain ⟨e0, e1, e2⟩ := he'
    have hv : mostT T ⟨4, id, st⟩ = g.room := by rw [hg']; rfl
    rw [hv]
    have Hha := Lib.hid ha; clear ha; have HhT := Lib.hid hT; clear hT; have Hhg' := Lib.hid hg'; clear hg'; have Hhv := Lib.hid hv; clear hv
    go_enter Try.func82, Try.ntmps82
    go_wp2_with fail
    go_quiet (fail)
    go_wp2_with fail
    go_ret
    exact ⟨rfl, (by repeat (first | exact Below.refl _ _ | (refine bl_setCell ?_ _ _ ?_; rotate_left; focus (first | omega | (simp; done) | (simp; omega))) | refine bl_alloc ?_ _ | refine bl_step ?_ (by assumption) | refine bl_drew ?_ | refine bl_drewN ?_ _))⟩

end Go.Proofs.Ytjoihijlcpnhoaa
namespace Go.Proofs.Ytjoihijlcpnhoaa
open Go.RowKit
open Go.ChangeMaps (setBlock)

theorem zero_int : ∀ u : World, (zeroValue 3).run Try.prog u = .ok (.int .i64 0) u := by intro u; kernel_rfl

theorem AccM.look {T : Town} {a1 a2 a3 a4 : Option Addr} {c1 c2 c3 c4 ab mb : Nat} {w : World} {a : Acc} (h : AccM T a1 a2 a3 a4 c1 c2 c3 c4 ab mb w a) (x : Thing) (hx : goodT x) :
    (Instr.lookup 145 (.map (some mb)) (.agg #[.int .i64 x.kind, .int .i64 x.id, .int .i64 x.step]) false).run Try.prog w = .ok (.int .i64 (kget a.used x)) w := by
  have h1 := MapE.look thing_ok Try.underlying145 h.mp h.keys h.good.nodup (zero_int w) x hx false
  rw [kget_mget]
  refine h1.trans ?_
  cases mget a.used x <;> rfl

/-- What a call of most, left has: the box of the thing, and the account where it was. -/
def LeftS (w : World) (x : Thing) (W : World) : Prop := Below w.heap.size w W ∧ W.heap[w.heap.size]? = some (.cells #[.int .i64 x.kind, .int .i64 x.id, .int .i64 x.step] 132 (0, 0))

set_option maxHeartbeats 2000000 in
set_option maxRecDepth 100000 in
theorem left_any (T : Town) (a1 a2 a3 a4 : Option Addr) (c1 c2 c3 c4 : Nat) (B ab mb : Nat) (x : Thing) (w : World) (a : Acc) (hG : TownG T) (hT : TownM B w a1 a2 a3 a4 T) (hB : B ≤ w.heap.size) (hx : ThingG T x) (hgx : goodT x) (ha : AccM T a1 a2 a3 a4 c1 c2 c3 c4 ab mb w a) :
    Calls Try.prog 46 #[.pointer (some ⟨ab, 0, none⟩), encT x] w fun e w' => e = .returned (.int .i64 (leftT T a x)) ∧ Below w.heap.size w w' := by
  have hac := cells_of ha.blk
  have hal := lt_of_heap ha.blk
  simp only [acCells] at hac
  have hml := mostT_le hG hx
  have hug := ha.good.get x
  obtain ⟨m, hm⟩ : ∃ m, mostT T x = m := ⟨_, rfl⟩
  obtain ⟨u, hu⟩ : ∃ u, kget a.used x = u := ⟨_, rfl⟩
  have hv : leftT T a x = m - u := by unfold leftT; rw [hm, hu]
  rw [hv]
  rw [hm] at hml
  rw [hu] at hug
  have hlk : ∀ W, Below w.heap.size w W → (Instr.lookup 145 (.map (some mb)) (.agg #[.int .i64 x.kind, .int .i64 x.id, .int .i64 x.step]) false).run Try.prog W = .ok (.int .i64 u) W := by
    intro W hW
    rw [← hu]
    exact (ha.below hW).look x hgx
  have hmost : ∀ W, Below w.heap.size w W → Calls Try.prog 82 #[.pointer (some ⟨ab, 0, none⟩), .agg #[.int .i64 x.kind, .int .i64 x.id, .int .i64 x.step]] W fun e w' => e = .returned (.int .i64 m) ∧ Below W.heap.size W w' := by
    intro W hW
    rw [← hm]
    exact most_any T _ _ _ _ _ _ _ _ B ab mb x W a (hT.below (hW.mono hB)) (Nat.le_trans hB hW.size) hx (ha.below hW)
  unfold encT
  have Hha := Lib.hid ha; clear ha; have HhT := Lib.hid hT; clear hT; have Hhm := Lib.hid hm; clear hm; have Hhu := Lib.hid hu; clear hu; have Hhv := Lib.hid hv; clear hv; have Hhlk := Lib.hid hlk; clear hlk; have Hhmost := Lib.hid hmost; clear hmost
  go_enter Try.func46, Try.ntmps46
  go_upto_region 1 with fail
  have hI0 : LeftS w x ((w.alloc (.cells #[.int .i64 x.kind, .int .i64 x.id, .int .i64 x.step] 132 (0, 0))).drew) := ⟨(by repeat (first | exact Below.refl _ _ | (refine bl_setCell ?_ _ _ ?_; rotate_left; focus (first | omega | (simp; done) | (simp; omega))) | refine bl_alloc ?_ _ | refine bl_step ?_ (by assumption) | refine bl_drew ?_ | refine bl_drewN ?_ _)), (by repeat (first | with_reducible assumption | (with_reducible refine heap_alloc_at' _ _ ?_; focus (simp; done)) | with_reducible refine heap_alloc_off ?_ _ | (with_reducible refine heap_setCell_off ?_ _ ?_; rotate_left; focus omega) | with_reducible refine heap_drew' ?_ | with_reducible refine heap_drewN' ?_ | with_reducible refine heap_below (by with_reducible assumption) ?_))⟩
  refine wp_region_ord (LeftS w x) [([0, 1, 3, 4, 5, 6, 7, 8], 2)] [9, 10] none (by kernel_rfl) (by kernel_rfl) hI0 ?_
  refine OrdI_cons ?_
  (apply StI_plain (w0 := _) hI0 rfl rfl rfl rfl; (focus (intro W hW K hK; have hbx := cells_of hW.2; obtain ⟨_, _, _⟩ := bk ab hW.1 hal; have hl := Hhlk.out W hW.1; go_step; exact hK)); (focus rfl)); (apply StI_plain (w0 := _) hI0 rfl rfl rfl rfl; (focus (intro W hW K hK; have hbx := cells_of hW.2; obtain ⟨_, _, _⟩ := bk ab hW.1 hal; have hl := Hhlk.out W hW.1; go_step; exact hK)); (focus rfl)); (apply StI_plain (w0 := _) hI0 rfl rfl rfl rfl; (focus (intro W hW K hK; have hbx := cells_of hW.2; obtain ⟨_, _, _⟩ := bk ab hW.1 hal; have hl := Hhlk.out W hW.1; go_step; exact hK)); (focus rfl)); (apply StI_plain (w0 := _) hI0 rfl rfl rfl rfl; (focus (intro W hW K hK; have hbx := cells_of hW.2; obtain ⟨_, _, _⟩ := bk ab hW.1 hal; have hl := Hhlk.out W hW.1; go_step; exact hK)); (focus rfl)); (apply StI_plain (w0 := _) hI0 rfl rfl rfl rfl; (focus (intro W hW K hK; have hbx := cells_of hW.2; obtain ⟨_, _, _⟩ := bk ab hW.1 hal; have hl := Hhlk.out W hW.1; go_step; exact hK)); (focus rfl)); (apply StI_plain (w0 := _) hI0 rfl rfl rfl rfl; (focus (intro W hW K hK; have hbx := cells_of hW.2; obtain ⟨_, _, _⟩ := bk ab hW.1 hal; have hl := Hhlk.out W hW.1; go_step; exact hK)); (focus rfl)); (apply StI_plain (w0 := _) hI0 rfl rfl rfl rfl; (focus (intro W hW K hK; have hbx := cells_of hW.2; obtain ⟨_, _, _⟩ := bk ab hW.1 hal; have hl := Hhlk.out W hW.1; go_step; exact hK)); (focus rfl)); (apply StI_plain (w0 := _) hI0 rfl rfl rfl rfl; (focus (intro W hW K hK; have hbx := cells_of hW.2; obtain ⟨_, _, _⟩ := bk ab hW.1 hal; have hl := Hhlk.out W hW.1; go_step; exact hK)); (focus rfl))
  (apply StI_eff rfl; go_wp2_with (first | (go_at_call 82; refine (Hhmost.out _ hI0.1).mono ?_; rintro e w1 ⟨rfl, hb1⟩)))
  have hI1 : LeftS w x w1 := ⟨bl_step hI0.1 hb1, heap_below hb1 hI0.2⟩
  refine onNormal_mk hI1 (OrdI_fin ?_)
  (apply StI_plain (w0 := _) hI1 rfl rfl rfl rfl; (focus (intro W hW K hK; skip; go_step; exact hK)); (focus rfl)); (apply StI_plain (w0 := _) hI1 rfl rfl rfl rfl; (focus (intro W hW K hK; skip; go_step; exact hK)); (focus rfl))
  refine StI_nil ?_
  go_wp2_with fail
  go_ret
  exact ⟨rfl, hI1.1⟩

theorem keeps_setBlock (w : World) (b : Nat) (o : Obj) : Keeps [b] w (setBlock w b o) :=
  ⟨rfl, rfl, rfl, by rw [size_setBlock]; exact Nat.le_refl _, fun k _ h => by
    simp only [List.mem_singleton] at h
    simp only [setBlock, Array.getElem?_setIfInBounds]
    rw [if_neg (fun e => h e.symm)]⟩

/-- What a call of use has while it stores: the box, the account's cells, and the number at the key as it was. -/
structure UseS (w : World) (mb : Nat) (x : Thing) (u : Int) (W : World) : Prop where
  kp : Keeps [mb] w W
  box : W.heap[w.heap.size]? = some (.cells #[.int .i64 x.kind, .int .i64 x.id, .int .i64 x.step] 132 (0, 0))
  lk : (Instr.lookup 145 (.map (some mb)) (.agg #[.int .i64 x.kind, .int .i64 x.id, .int .i64 x.step]) false).run Try.prog W = .ok (.int .i64 u) W

set_option maxHeartbeats 2000000 in
set_option maxRecDepth 100000 in
theorem use_any (T : Town) (a1 a2 a3 a4 : Option Addr) (c1 c2 c3 c4 : Nat) (B ab mb : Nat) (x : Thing) (n : Int) (w : World) (a : Acc) (hG : TownG T) (hT : TownM B w a1 a2 a3 a4 T) (hB : B ≤ w.heap.size) (hx : ThingG T x) (hgx : goodT x) (hn0 : 0 ≤ n) (ha : AccM T a1 a2 a3 a4 c1 c2 c3 c4 ab mb w a) :
    Calls Try.prog 56 #[.pointer (some ⟨ab, 0, none⟩), encT x, .int .i64 n] w fun e w' => e = .returned (.tuple #[]) ∧ Keeps [ab, mb] w w' ∧ AccM T a1 a2 a3 a4 c1 c2 c3 c4 ab mb w' (useT T a x n) := by
  have hal := lt_of_heap ha.blk
  have hml := ha.mp.lt
  have hne := ha.ne
  obtain ⟨lf, hlf⟩ : ∃ m, leftT T a x = m := ⟨_, rfl⟩
  obtain ⟨u, hu⟩ : ∃ u, kget a.used x = u := ⟨_, rfl⟩
  have hug := ha.good.get x
  rw [hu] at hug
  have hmo := mostT_le hG hx
  have hlu : lf = mostT T x - u := by rw [← hlf, ← hu]; rfl
  have hleft : ∀ W, Below w.heap.size w W → Calls Try.prog 46 #[.pointer (some ⟨ab, 0, none⟩), .agg #[.int .i64 x.kind, .int .i64 x.id, .int .i64 x.step]] W fun e w' => e = .returned (.int .i64 lf) ∧ Below W.heap.size W w' := by
    intro W hW
    rw [← hlf]
    exact left_any T _ _ _ _ _ _ _ _ B ab mb x W a hG (hT.below (hW.mono hB)) (Nat.le_trans hB hW.size) hx hgx (ha.below hW)
  unfold encT
  by_cases hle : n ≤ lf
  · have hres : useT T a x n = { a with used := kadd a.used x n } := by unfold useT; rw [hlf, if_pos hle]
    have hle' : decide (n ≤ lf) = true := by simpa using hle
    have hs : u + n ≤ 100000 := by omega
    clear hmo hlu
    have Hha := Lib.hid ha; clear ha; have HhT := Lib.hid hT; clear hT; have Hhlf := Lib.hid hlf; clear hlf; have Hhu := Lib.hid hu; clear hu; have Hhres := Lib.hid hres; clear hres; have Hhleft := Lib.hid hleft; clear hleft; have Hhle := Lib.hid hle; clear hle
    go_enter Try.func56, Try.ntmps56
    go_upto_region 3 with (go_at_call 46; refine (Hhleft.out _ (by repeat (first | exact Below.refl _ _ | (refine bl_setCell ?_ _ _ ?_; rotate_left; focus (first | omega | (simp; done) | (simp; omega))) | refine bl_alloc ?_ _ | refine bl_step ?_ (by assumption) | refine bl_drew ?_ | refine bl_drewN ?_ _))).mono ?_; rintro e w1 ⟨rfl, hb1⟩)
    have hbox : w1.heap[w.heap.size]? = some (.cells #[.int .i64 x.kind, .int .i64 x.id, .int .i64 x.step] 132 (0, 0)) := (by repeat (first | with_reducible assumption | (with_reducible refine heap_alloc_at' _ _ ?_; focus (simp; done)) | with_reducible refine heap_alloc_off ?_ _ | (with_reducible refine heap_setCell_off ?_ _ ?_; rotate_left; focus omega) | with_reducible refine heap_drew' ?_ | with_reducible refine heap_drewN' ?_ | with_reducible refine heap_below (by with_reducible assumption) ?_))
    have hb1w : Below w.heap.size w w1 := (by repeat (first | exact Below.refl _ _ | (refine bl_setCell ?_ _ _ ?_; rotate_left; focus (first | omega | (simp; done) | (simp; omega))) | refine bl_alloc ?_ _ | refine bl_step ?_ (by assumption) | refine bl_drew ?_ | refine bl_drewN ?_ _))
    have ha1 : AccM T a1 a2 a3 a4 c1 c2 c3 c4 ab mb w1.drew a := (Hha.out.below hb1w).same rfl rfl
    have hk1 : Keeps [mb] w w1.drew := (Keeps.of_below hb1w _).drew
    obtain ⟨st, o1, he1, hm1, hst⟩ := MapE.entry thing_ok Try.underlying145 ha1.mp ha1.keys ha1.good.nodup (z := (0 : Int)) zero_int x hgx
    obtain ⟨o2, hes, hm2⟩ := hst (u + n)
    rw [← kget_mget, Hhu.out] at he1 hm1
    obtain ⟨w2, hw2⟩ : ∃ W, setBlock w1.drew mb o1 = W := ⟨_, rfl⟩
    have hk2 : Keeps [mb] w1.drew w2 := by rw [← hw2]; exact keeps_setBlock _ _ _
    rw [hw2] at he1 hm1 hes hm2
    obtain ⟨w3, hw3⟩ : ∃ W, setBlock w2 mb o2 = W := ⟨_, rfl⟩
    have hk3 : Keeps [mb] w2 w3 := by rw [← hw3]; exact keeps_setBlock _ _ _
    rw [hw3] at hes hm2
    clear hst hw2 hw3
    have nab : ¬ ab ∈ [mb] := by simpa using hne
    have nbx : ¬ w.heap.size ∈ [mb] := by simp; omega
    have hI1 : UseS w mb x u w1.drew := ⟨hk1, heap_drew' hbox, by rw [← Hhu.out]; exact ha1.look x hgx⟩
    have hI2 : UseS w mb x u w2 := by
      refine ⟨hk1.trans hk2, hk2.heap (heap_drew' hbox) nbx, ?_⟩
      have hl2 := MapE.look thing_ok Try.underlying145 hm1 (ha1.keys.mput hgx) (Apart.mput ha1.good.nodup) (zero_int w2) x hgx false
      rw [mget_mput, if_pos rfl] at hl2
      exact hl2
    have hac := cells_of Hha.out.blk
    simp only [acCells] at hac
    have Hha1 := Lib.hid ha1; clear ha1; have Hhk1 := Lib.hid hk1; clear hk1; have Hhm1 := Lib.hid hm1; clear hm1; have Hhm2 := Lib.hid hm2; clear hm2; have Hhk2 := Lib.hid hk2; clear hk2; have Hhk3 := Lib.hid hk3; clear hk3; have Hhbox := Lib.hid hbox; clear hbox
    refine wp_region_ord (UseS w mb x u) [([0, 1, 2, 3, 4, 5, 6, 7], 8)] [9] (some 10) (by kernel_rfl) (by kernel_rfl) hI1 ?_
    refine OrdI_cons ?_
    (apply StI_plain (w0 := _) hI1 rfl rfl rfl rfl; (focus (intro W hW K hK; have hbx := cells_of hW.box; have := hW.kp.cell ab hal nab; have hl := hW.lk; go_step; exact hK)); (focus rfl)); (apply StI_plain (w0 := _) hI1 rfl rfl rfl rfl; (focus (intro W hW K hK; have hbx := cells_of hW.box; have := hW.kp.cell ab hal nab; have hl := hW.lk; go_step; exact hK)); (focus rfl)); (apply StI_plain (w0 := _) hI1 rfl rfl rfl rfl; (focus (intro W hW K hK; have hbx := cells_of hW.box; have := hW.kp.cell ab hal nab; have hl := hW.lk; go_step; exact hK)); (focus rfl)); (apply StI_plain (w0 := _) hI1 rfl rfl rfl rfl; (focus (intro W hW K hK; have hbx := cells_of hW.box; have := hW.kp.cell ab hal nab; have hl := hW.lk; go_step; exact hK)); (focus rfl)); (apply StI_plain (w0 := _) hI1 rfl rfl rfl rfl; (focus (intro W hW K hK; have hbx := cells_of hW.box; have := hW.kp.cell ab hal nab; have hl := hW.lk; go_step; exact hK)); (focus rfl)); (apply StI_plain (w0 := _) hI1 rfl rfl rfl rfl; (focus (intro W hW K hK; have hbx := cells_of hW.box; have := hW.kp.cell ab hal nab; have hl := hW.lk; go_step; exact hK)); (focus rfl)); (apply StI_plain (w0 := _) hI1 rfl rfl rfl rfl; (focus (intro W hW K hK; have hbx := cells_of hW.box; have := hW.kp.cell ab hal nab; have hl := hW.lk; go_step; exact hK)); (focus rfl)); (apply StI_plain (w0 := _) hI1 rfl rfl rfl rfl; (focus (intro W hW K hK; have hbx := cells_of hW.box; have := hW.kp.cell ab hal nab; have hl := hW.lk; go_step; exact hK)); (focus rfl))
    (apply StI_eff rfl; refine wpList_mapEntry_run _ w2 rfl _ _ _ rfl _ _ _ rfl rfl he1 ?_; go_wp2_with fail)
    refine onNormal_mk hI2 (OrdI_snk ?_)
    (apply StI_plain (w0 := _) hI2 rfl rfl rfl rfl; (focus (intro W hW K hK; skip; go_step; exact hK)); (focus rfl))
    (apply StI_eff rfl; refine wpList_entryStore_run _ w3 rfl _ _ _ _ rfl _ _ _ rfl rfl rfl hes ?_; go_wp2_with fail)
    refine onNormal_last ?_
    go_wp2_with fail
    (try simp only [Exit.inBlock, Exit.then]); refine bodyPost_end (results_none rfl _ _ _) rfl ?_
    rw [Hhres.out]
    have kall : Keeps [mb] w w3 := (Hhk1.out.trans Hhk2.out).trans Hhk3.out
    refine ⟨rfl, kall.mono (fun i hi => by simp at hi; simp [hi]), ?_, ?_, hne, ?_, ?_⟩
    · exact kall.heap Hha.out.blk nab
    · rw [kadd_mput, Hhu.out]; exact Hhm2.out
    · have := useT_good hG hx hn0 Hha.out.good
      rw [Hhres.out] at this
      exact this
    · rw [kadd_mput]
      exact GoodKeys.mput hgx Hha.out.keys
  · have hle' : decide (n ≤ lf) = false := by simpa using hle
    have hgood : AccG (useT T a x n) := useT_good hG hx hn0 ha.good
    by_cases hk : x.kind = 0
    · have hres : useT T a x n = { a with over := true } := by unfold useT; rw [hlf, if_neg hle, if_pos hk]
      have hk' : (x.kind == 0) = true := by simpa using hk
      rw [hres] at hgood
      have hac := cells_of ha.blk
      have haf := frozen_of ha.blk
      simp only [acCells] at hac
      clear hmo hlu
      have Hha := Lib.hid ha; clear ha; have HhT := Lib.hid hT; clear hT; have Hhlf := Lib.hid hlf; clear hlf; have Hhu := Lib.hid hu; clear hu; have Hhres := Lib.hid hres; clear hres; have Hhleft := Lib.hid hleft; clear hleft; have Hhle := Lib.hid hle; clear hle; have Hhk := Lib.hid hk; clear hk; have Hhgood := Lib.hid hgood; clear hgood
      go_enter Try.func56, Try.ntmps56
      go_upto_region 5 with (go_at_call 46; refine (Hhleft.out _ (by repeat (first | exact Below.refl _ _ | (refine bl_setCell ?_ _ _ ?_; rotate_left; focus (first | omega | (simp; done) | (simp; omega))) | refine bl_alloc ?_ _ | refine bl_step ?_ (by assumption) | refine bl_drew ?_ | refine bl_drewN ?_ _))).mono ?_; rintro e w1 ⟨rfl, hb1⟩; obtain ⟨_, _, _⟩ := bk (ab) hb1 (by (first | omega | (simp; done) | (simp; omega))); obtain ⟨_, _, _⟩ := bk (w.heap.size) hb1 (by (first | omega | (simp; done) | (simp; omega))); have hzhb1 := bsz hb1; (try simp only [World.size_alloc] at hzhb1))
      have ha1 := Hha.out.below (show Below w.heap.size w w1 from (by repeat (first | exact Below.refl _ _ | (refine bl_setCell ?_ _ _ ?_; rotate_left; focus (first | omega | (simp; done) | (simp; omega))) | refine bl_alloc ?_ _ | refine bl_step ?_ (by assumption) | refine bl_drew ?_ | refine bl_drewN ?_ _)))
      have hk1 : Keeps [ab, mb] w w1 := Keeps.of_below (by repeat (first | exact Below.refl _ _ | (refine bl_setCell ?_ _ _ ?_; rotate_left; focus (first | omega | (simp; done) | (simp; omega))) | refine bl_alloc ?_ _ | refine bl_step ?_ (by assumption) | refine bl_drew ?_ | refine bl_drewN ?_ _)) _
      have Hha1 := Lib.hid ha1; clear ha1; have Hhk1 := Lib.hid hk1; clear hk1
      go_wp2_with fail
      ((try simp only [Exit.inBlock, Exit.then]); refine bodyPost_end (results_none rfl _ _ _) rfl ?_; rw [Hhres.out]; exact ⟨rfl, by have := Hhk1.out; repeat (first | with_reducible exact Keeps.refl _ _ | with_reducible refine Keeps.drew ?_ | with_reducible refine Keeps.drewN ?_ _ | with_reducible refine Keeps.alloc ?_ _ | (with_reducible refine Keeps.setCell ?_ _ _ ?_; rotate_left; focus (first | (simp; done) | (simp; omega))) | with_reducible assumption | with_reducible refine Keeps.stepB ?_ (by with_reducible assumption)), by first | exact heap_drew' ((heap_setCell_at Hha1.out.blk _).trans rfl) | exact (heap_setCell_at Hha1.out.blk _).trans rfl, Hha1.out.mp.same (by simp [World.setCell, Array.getElem?_modify, hne]), hne, Hhgood.out, Hha.out.keys⟩)
    · have hres : useT T a x n = { a with full := true } := by unfold useT; rw [hlf, if_neg hle, if_neg hk]
      have hk' : (x.kind == 0) = false := by simpa using hk
      rw [hres] at hgood
      have hac := cells_of ha.blk
      have haf := frozen_of ha.blk
      simp only [acCells] at hac
      clear hmo hlu
      have Hha := Lib.hid ha; clear ha; have HhT := Lib.hid hT; clear hT; have Hhlf := Lib.hid hlf; clear hlf; have Hhu := Lib.hid hu; clear hu; have Hhres := Lib.hid hres; clear hres; have Hhleft := Lib.hid hleft; clear hleft; have Hhle := Lib.hid hle; clear hle; have Hhk := Lib.hid hk; clear hk; have Hhgood := Lib.hid hgood; clear hgood
      go_enter Try.func56, Try.ntmps56
      go_upto_region 1 with (go_at_call 46; refine (Hhleft.out _ (by repeat (first | exact Below.refl _ _ | (refine bl_setCell ?_ _ _ ?_; rotate_left; focus (first | omega | (simp; done) | (simp; omega))) | refine bl_alloc ?_ _ | refine bl_step ?_ (by assumption) | refine bl_drew ?_ | refine bl_drewN ?_ _))).mono ?_; rintro e w1 ⟨rfl, hb1⟩; obtain ⟨_, _, _⟩ := bk (ab) hb1 (by (first | omega | (simp; done) | (simp; omega))); obtain ⟨_, _, _⟩ := bk (w.heap.size) hb1 (by (first | omega | (simp; done) | (simp; omega))); have hzhb1 := bsz hb1; (try simp only [World.size_alloc] at hzhb1))
      have ha1 := Hha.out.below (show Below w.heap.size w w1 from (by repeat (first | exact Below.refl _ _ | (refine bl_setCell ?_ _ _ ?_; rotate_left; focus (first | omega | (simp; done) | (simp; omega))) | refine bl_alloc ?_ _ | refine bl_step ?_ (by assumption) | refine bl_drew ?_ | refine bl_drewN ?_ _)))
      have hk1 : Keeps [ab, mb] w w1 := Keeps.of_below (by repeat (first | exact Below.refl _ _ | (refine bl_setCell ?_ _ _ ?_; rotate_left; focus (first | omega | (simp; done) | (simp; omega))) | refine bl_alloc ?_ _ | refine bl_step ?_ (by assumption) | refine bl_drew ?_ | refine bl_drewN ?_ _)) _
      have Hha1 := Lib.hid ha1; clear ha1; have Hhk1 := Lib.hid hk1; clear hk1
      go_wp2_with fail
      ((try simp only [Exit.inBlock, Exit.then]); refine bodyPost_end (results_none rfl _ _ _) rfl ?_; rw [Hhres.out]; exact ⟨rfl, by have := Hhk1.out; repeat (first | with_reducible exact Keeps.refl _ _ | with_reducible refine Keeps.drew ?_ | with_reducible refine Keeps.drewN ?_ _ | with_reducible refine Keeps.alloc ?_ _ | (with_reducible refine Keeps.setCell ?_ _ _ ?_; rotate_left; focus (first | (simp; done) | (simp; omega))) | with_reducible assumption | with_reducible refine Keeps.stepB ?_ (by with_reducible assumption)), by first | exact heap_drew' ((heap_setCell_at Hha1.out.blk _).trans rfl) | exact (heap_setCell_at Hha1.out.blk _).trans rfl, Hha1.out.mp.same (by simp [World.setCell, Array.getElem?_modify, hne]), hne, Hhgood.out, Hha.out.keys⟩)

theorem good_small {x : Thing} {n : Int} (hx : I64 n) (h : x = ⟨3, n, 0⟩ ∨ x = ⟨4, n, 0⟩) : goodT x := by
  rcases h with rfl | rfl <;> exact ⟨by unfold I64; simp, hx, by unfold I64; simp⟩

set_option maxHeartbeats 2000000 in
set_option maxRecDepth 100000 in
theorem enter_any (T : Town) (a1 a2 a3 a4 : Option Addr) (c1 c2 c3 c4 : Nat) (B ab mb : Nat) (p s n : Int) (w : World) (a : Acc) (hG : TownG T) (hT : TownM B w a1 a2 a3 a4 T) (hB : B ≤ w.heap.size) (hBa : B ≤ ab) (hBm : B ≤ mb) (hp : 0 ≤ p ∧ p < (T.places.length : Int)) (hs : I64 s) (hn0 : 0 ≤ n) (ha : AccM T a1 a2 a3 a4 c1 c2 c3 c4 ab mb w a) :
    Calls Try.prog 57 #[.pointer (some ⟨ab, 0, none⟩), .agg #[.int .i64 p, .int .i64 s], .int .i64 n] w fun e w' => e = .returned (.tuple #[]) ∧ Keeps [ab, mb] w w' ∧ AccM T a1 a2 a3 a4 c1 c2 c3 c4 ab mb w' (enterT T a p s n) := by
  have hal := lt_of_heap ha.blk
  have hml := ha.mp.lt
  have hnp := hG.np.2
  have hpi : I64 p := by unfold I64; omega
  have hx3 : ThingG T ⟨3, p, s⟩ := ⟨by simp, fun e => by simp at e, fun e => by simp at e, fun _ => hp⟩
  have hx4 : ThingG T ⟨4, p, 0⟩ := ⟨by simp, fun e => by simp at e, fun e => by simp at e, fun _ => hp⟩
  have hg3 : goodT ⟨3, p, s⟩ := ⟨by unfold I64; simp, hpi, hs⟩
  have hg4 : goodT ⟨4, p, 0⟩ := ⟨by unfold I64; simp, hpi, by unfold I64; simp⟩
  have C1 : ∀ W, Below w.heap.size w W → Calls Try.prog 56 #[.pointer (some ⟨ab, 0, none⟩), .agg #[.int .i64 3, .int .i64 p, .int .i64 s], .int .i64 n] W fun e w' => e = .returned (.tuple #[]) ∧ Keeps [ab, mb] W w' ∧ AccM T a1 a2 a3 a4 c1 c2 c3 c4 ab mb w' (useT T a ⟨3, p, s⟩ n) :=
    fun W hW => use_any T _ _ _ _ _ _ _ _ B ab mb ⟨3, p, s⟩ n W a hG (hT.below (hW.mono hB)) (Nat.le_trans hB hW.size) hx3 hg3 hn0 (ha.below hW)
  have C2 : ∀ W, Below B w W → B ≤ W.heap.size → AccM T a1 a2 a3 a4 c1 c2 c3 c4 ab mb W (useT T a ⟨3, p, s⟩ n) → Calls Try.prog 56 #[.pointer (some ⟨ab, 0, none⟩), .agg #[.int .i64 4, .int .i64 p, .int .i64 0], .int .i64 n] W fun e w' => e = .returned (.tuple #[]) ∧ Keeps [ab, mb] W w' ∧ AccM T a1 a2 a3 a4 c1 c2 c3 c4 ab mb w' (enterT T a p s n) :=
    fun W hW hBW hA => use_any T _ _ _ _ _ _ _ _ B ab mb ⟨4, p, 0⟩ n W _ hG (hT.below hW) hBW hx4 hg4 hn0 hA
  have HC1 := Lib.hid C1; clear C1; have HC2 := Lib.hid C2; clear C2; have Hha := Lib.hid ha; clear ha; have HhT := Lib.hid hT; clear hT; have Hhx3 := Lib.hid hx3; clear hx3; have Hhx4 := Lib.hid hx4; clear hx4; have Hhg3 := Lib.hid hg3; clear hg3; have Hhg4 := Lib.hid hg4; clear hg4
  have tok1 : True := trivial
  go_enter Try.func57, Try.ntmps57
  go_wp2_with (first
    | (go_at_call 56; have _t := tok1; clear _t tok1; refine (HC1.out _ (by repeat (first | exact Below.refl _ _ | (refine bl_setCell ?_ _ _ ?_; rotate_left; focus (first | omega | (simp; done) | (simp; omega))) | refine bl_alloc ?_ _ | refine bl_step ?_ (by assumption) | refine bl_drew ?_ | refine bl_drewN ?_ _))).mono ?_; rintro e w1 ⟨rfl, hk1, ha1⟩; have hbx1 := hk1.heap (heap_alloc_at _ _) (show ¬ w.heap.size ∈ [ab, mb] by simp; omega); have hbc1 := cells_of hbx1; have hz1 := hk1.size; simp only [World.size_alloc] at hz1; have hkb : Keeps [ab, mb] w w1 := ((Keeps.refl _ _).alloc _).trans hk1; have Hha1 := Lib.hid ha1; clear ha1; have Hhbx1 := Lib.hid hbx1; clear hbx1)
    | (go_at_call 56; refine (HC2.out _ (hkb.below hB (by simp; omega)) (by omega) Hha1.out).mono ?_; rintro e w2 ⟨rfl, hk2, ha2⟩))
  (try simp only [Exit.inBlock, Exit.then]); refine bodyPost_end (results_none rfl _ _ _) rfl ?_
  exact ⟨rfl, hkb.trans hk2, ha2⟩

end Go.Proofs.Ytjoihijlcpnhoaa
namespace Go.Proofs.Ytjoihijlcpnhoaa
open Go.RowKit

def tripLong (x : Trip) : Bool := decide (64 < x.hops.length)
def rideLong (x : Ride) : Bool := decide (64 < x.hops.length) || decide (64 < x.boards.length)

set_option maxHeartbeats 2000000 in
set_option maxRecDepth 100000 in
theorem ck1_any (x : Trip) (a' : Option Addr) (c' : Nat) (w : World) (hl : x.hops.length ≤ 140737488355328) :
    Calls Try.prog 52 #[.agg #[.int .i64 x.group, .int .i64 x.count, .slice a' x.hops.length c', .int .i64 x.enter]] w fun e w' => e = .returned (.bool (tripLong x)) ∧ Below w.heap.size w w' := by
  go_enter Try.func52, Try.ntmps52
  go_wp2_with fail
  go_ret
  exact ⟨by unfold tripLong; simp; omega, (by repeat (first | exact Below.refl _ _ | (refine bl_setCell ?_ _ _ ?_; rotate_left; focus (first | omega | (simp; done) | (simp; omega))) | refine bl_alloc ?_ _ | refine bl_step ?_ (by assumption) | refine bl_drew ?_ | refine bl_drewN ?_ _))⟩

set_option maxHeartbeats 2000000 in
set_option maxRecDepth 100000 in
theorem ck2_any (x : Ride) (a' a'' : Option Addr) (c' c'' : Nat) (w : World) (hl : x.hops.length ≤ 140737488355328) (hl2 : x.boards.length ≤ 140737488355328) :
    Calls Try.prog 54 #[.agg #[.int .i64 x.vehicle, .slice a' x.hops.length c', .slice a'' x.boards.length c'']] w fun e w' => e = .returned (.bool (rideLong x)) ∧ Below w.heap.size w w' := by
  by_cases h : 64 < x.hops.length
  · have h1 : decide (64 < (x.hops.length : Int)) = true := by simp; omega
    have hv : rideLong x = true := by unfold rideLong; simp [h]
    rw [hv]
    go_enter Try.func54, Try.ntmps54
    go_wp2_with fail
    go_ret
    exact ⟨rfl, (by repeat (first | exact Below.refl _ _ | (refine bl_setCell ?_ _ _ ?_; rotate_left; focus (first | omega | (simp; done) | (simp; omega))) | refine bl_alloc ?_ _ | refine bl_step ?_ (by assumption) | refine bl_drew ?_ | refine bl_drewN ?_ _))⟩
  · have h1 : decide (64 < (x.hops.length : Int)) = false := by simp; omega
    obtain ⟨v, hv2⟩ : ∃ v, decide (64 < (x.boards.length : Int)) = v := ⟨_, rfl⟩
    have hv : rideLong x = v := by
      unfold rideLong
      rw [← hv2, show decide (64 < x.hops.length) = false by simpa using h, Bool.false_or]
      exact decide_eq_decide.2 (by omega)
    rw [hv]
    go_enter Try.func54, Try.ntmps54
    go_wp2_with fail
    go_ret
    exact ⟨rfl, (by repeat (first | exact Below.refl _ _ | (refine bl_setCell ?_ _ _ ?_; rotate_left; focus (first | omega | (simp; done) | (simp; omega))) | refine bl_alloc ?_ _ | refine bl_step ?_ (by assumption) | refine bl_drew ?_ | refine bl_drewN ?_ _))⟩

theorem enters_ck1 : ∀ (args : Array Value) (w : World), (callFunc 52 args).run Try.prog w = .ok (.enter 52 args) w := by
  intro args w
  go_simp
theorem enters_ck2 : ∀ (args : Array Value) (w : World), (callFunc 54 args).run Try.prog w = .ok (.enter 54 args) w := by
  intro args w
  go_simp

theorem tripLong_val (l : List Trip) (a : Option Addr) (c B : Nat) (v : Bool) (hv : l.any tripLong = v) (w : World) (hs : Sl (TripE B) 4 B w a l) (hB : B ≤ w.heap.size) :
    Calls Try.prog 51 #[.slice a l.length c, .func (.func 52) #[] #[]] w fun e w' => e = .returned (.bool v) ∧ Below w.heap.size w w' := by
  subst hv
  exact containsTrip_any l a c B 52 #[] #[] tripLong w hB hs enters_ck1 (fun x W a' c' _ hh _ => ck1_any x a' c' W hh.1)
theorem rideLong_val (l : List Ride) (a : Option Addr) (c B : Nat) (v : Bool) (hv : l.any rideLong = v) (w : World) (hs : Sl (RideE B) 3 B w a l) (hB : B ≤ w.heap.size) :
    Calls Try.prog 53 #[.slice a l.length c, .func (.func 54) #[] #[]] w fun e w' => e = .returned (.bool v) ∧ Below w.heap.size w w' := by
  subst hv
  exact containsRide_any l a c B 54 #[] #[] rideLong w hB hs enters_ck2 (fun x W a' c' a'' c'' _ hh hb _ => ck2_any x a' a'' c' c'' W hh.1 hb.1)

theorem longP_eq (p : Plan) : longP p = (decide (4096 < p.trips.length) || decide (256 < p.rides.length) || p.trips.any tripLong || p.rides.any rideLong) := rfl

/-- What checked answers. -/
def CkPost (T : Town) (a1 a2 a3 a4 : Option Addr) (c1 c2 c3 c4 : Nat) (w : World) (r : Res Acc) (e : Ending) (w' : World) : Prop :=
  Below w.heap.size w w' ∧ match r with
  | .bad n => e = .returned (.tuple #[.pointer none, .int .i64 n])
  | .ok a => ∃ ab mb, e = .returned (.tuple #[.pointer (some ⟨ab, 0, none⟩), .int .i64 0]) ∧ w.heap.size ≤ ab ∧ w.heap.size ≤ mb ∧ AccM T a1 a2 a3 a4 c1 c2 c3 c4 ab mb w' a

/-- In the midst of checked: its boxes and the account. -/
structure CkS (T : Town) (a1 a2 a3 a4 : Option Addr) (c1 c2 c3 c4 : Nat) (p : Plan) (p1 p2 : Option Addr) (d1 d2 : Nat) (w : World) (ab mb : Nat) (a : Acc) (W : World) : Prop where
  bl : Below w.heap.size w W
  bt : W.heap[w.heap.size]? = some (.cells #[.int .i64 T.steps, .slice a1 T.places.length c1, .slice a2 T.ways.length c2, .slice a3 T.groups.length c3, .slice a4 T.vehicles.length c4] 27 (0, 0))
  bp : W.heap[w.heap.size + 1]? = some (.cells #[.slice p1 p.trips.length d1, .slice p2 p.rides.length d2] 31 (0, 0))
  am : AccM T a1 a2 a3 a4 c1 c2 c3 c4 ab mb W a
  hab : w.heap.size + 1 < ab
  hmb : w.heap.size + 1 < mb

set_option maxHeartbeats 2000000 in
set_option maxRecDepth 100000 in
theorem ck_err (T : Town) (a1 a2 a3 a4 : Option Addr) (c1 c2 c3 c4 : Nat) (p : Plan) (p1 p2 : Option Addr) (d1 d2 : Nat) (B : Nat) (w : World) (hT : TownM B w a1 a2 a3 a4 T) (hB : B ≤ w.heap.size) (h : checkT T ≠ 0) :
    Calls Try.prog 29 #[.agg #[.int .i64 T.steps, .slice a1 T.places.length c1, .slice a2 T.ways.length c2, .slice a3 T.groups.length c3, .slice a4 T.vehicles.length c4], .agg #[.slice p1 p.trips.length d1, .slice p2 p.rides.length d2]] w (CkPost T a1 a2 a3 a4 c1 c2 c3 c4 w (checkedT T p)) := by
  have hv : checkedT T p = .bad (checkT T) := by unfold checkedT; rw [if_pos h]
  rw [hv]
  obtain ⟨n, hn⟩ : ∃ n, checkT T = n := ⟨_, rfl⟩
  rw [hn] at h ⊢
  have h' : (n != 0) = true := by simpa using h
  have hC : ∀ W, Below B w W → B ≤ W.heap.size → Calls Try.prog 50 #[.agg #[.int .i64 T.steps, .slice a1 T.places.length c1, .slice a2 T.ways.length c2, .slice a3 T.groups.length c3, .slice a4 T.vehicles.length c4]] W fun e w' => e = .returned (.int .i64 n) ∧ Below W.heap.size W w' := by
    intro W hW hBW
    rw [← hn]
    exact check_any T _ _ _ _ _ _ _ _ B W (hT.below hW) hBW
  have HhC := Lib.hid hC; clear hC; have Hhn := Lib.hid hn; clear hn; have HhT := Lib.hid hT; clear hT; have Hh := Lib.hid h; clear h
  go_enter Try.func29, Try.ntmps29
  go_wp2_with (go_at_call 50; refine (HhC.out _ ((show Below w.heap.size w _ from (by repeat (first | exact Below.refl _ _ | (refine bl_setCell ?_ _ _ ?_; rotate_left; focus (first | omega | (simp; done) | (simp; omega))) | refine bl_alloc ?_ _ | refine bl_step ?_ (by assumption) | refine bl_drew ?_ | refine bl_drewN ?_ _))).mono hB) (by (first | omega | (simp; done) | (simp; omega)))).mono ?_; rintro e w1 ⟨rfl, hb1⟩; have hz1 := hb1.size)
  go_ret2
  exact ⟨(by repeat (first | exact Below.refl _ _ | (refine bl_setCell ?_ _ _ ?_; rotate_left; focus (first | omega | (simp; done) | (simp; omega))) | refine bl_alloc ?_ _ | refine bl_step ?_ (by assumption) | refine bl_drew ?_ | refine bl_drewN ?_ _)), rfl⟩

theorem longP_cases (p : Plan) (h : longP p = true) : 4096 < p.trips.length ∨ (¬ 4096 < p.trips.length ∧ 256 < p.rides.length) ∨ (¬ 4096 < p.trips.length ∧ ¬ 256 < p.rides.length ∧ p.trips.any tripLong = true) ∨
    (¬ 4096 < p.trips.length ∧ ¬ 256 < p.rides.length ∧ p.trips.any tripLong = false ∧ p.rides.any rideLong = true) := by
  rw [longP_eq] at h
  by_cases h1 : 4096 < p.trips.length
  · exact .inl h1
  by_cases h2 : 256 < p.rides.length
  · exact .inr (.inl ⟨h1, h2⟩)
  cases h3 : p.trips.any tripLong
  · cases h4 : p.rides.any rideLong
    · simp [h1, h2, h3, h4] at h
    · exact .inr (.inr (.inr ⟨h1, h2, rfl, rfl⟩))
  · exact .inr (.inr (.inl ⟨h1, h2, rfl⟩))

set_option maxHeartbeats 2000000 in
set_option maxRecDepth 100000 in
theorem ck_long (T : Town) (a1 a2 a3 a4 : Option Addr) (c1 c2 c3 c4 : Nat) (p : Plan) (p1 p2 : Option Addr) (d1 d2 : Nat) (B : Nat) (w : World) (hT : TownM B w a1 a2 a3 a4 T) (hP : PlanM B w p1 p2 p) (hB : B ≤ w.heap.size) (h : checkT T = 0) (hl : longP p = true) :
    Calls Try.prog 29 #[.agg #[.int .i64 T.steps, .slice a1 T.places.length c1, .slice a2 T.ways.length c2, .slice a3 T.groups.length c3, .slice a4 T.vehicles.length c4], .agg #[.slice p1 p.trips.length d1, .slice p2 p.rides.length d2]] w (CkPost T a1 a2 a3 a4 c1 c2 c3 c4 w (checkedT T p)) := by
  have hv : checkedT T p = .bad 9 := by unfold checkedT; rw [if_neg (by simp [h]), if_pos hl]
  rw [hv]
  have hl1 := hP.trips.1
  have hl2 := hP.rides.1
  have hC : ∀ W, Below B w W → B ≤ W.heap.size → Calls Try.prog 50 #[.agg #[.int .i64 T.steps, .slice a1 T.places.length c1, .slice a2 T.ways.length c2, .slice a3 T.groups.length c3, .slice a4 T.vehicles.length c4]] W fun e w' => e = .returned (.int .i64 0) ∧ Below W.heap.size W w' := by
    intro W hW hBW
    rw [← h]
    exact check_any T _ _ _ _ _ _ _ _ B W (hT.below hW) hBW
  have hq := longP_cases p hl
  clear hl
  rcases hq with q1 | ⟨q1, q2⟩ | ⟨q1, q2, q3⟩ | ⟨q1, q2, q3, q4⟩
  · have r1 : decide (4096 < (p.trips.length : Int)) = true := by simp; omega
    have HhC := Lib.hid hC; clear hC; have HhT := Lib.hid hT; clear hT; have HhP := Lib.hid hP; clear hP; have Hh := Lib.hid h; clear h; have Hq1 := Lib.hid q1; clear q1
    go_enter Try.func29, Try.ntmps29
    go_wp2_with (go_at_call 50; refine (HhC.out _ ((show Below w.heap.size w _ from (by repeat (first | exact Below.refl _ _ | (refine bl_setCell ?_ _ _ ?_; rotate_left; focus (first | omega | (simp; done) | (simp; omega))) | refine bl_alloc ?_ _ | refine bl_step ?_ (by assumption) | refine bl_drew ?_ | refine bl_drewN ?_ _))).mono hB) (by (first | omega | (simp; done) | (simp; omega)))).mono ?_; rintro e w1 ⟨rfl, hb1⟩; obtain ⟨_, _, _⟩ := bk (w.heap.size) hb1 (by (first | omega | (simp; done) | (simp; omega))); obtain ⟨_, _, _⟩ := bk (w.heap.size + 1) hb1 (by (first | omega | (simp; done) | (simp; omega))); have hzhb1 := bsz hb1; (try simp only [World.size_alloc] at hzhb1))
    go_ret2
    exact ⟨(by repeat (first | exact Below.refl _ _ | (refine bl_setCell ?_ _ _ ?_; rotate_left; focus (first | omega | (simp; done) | (simp; omega))) | refine bl_alloc ?_ _ | refine bl_step ?_ (by assumption) | refine bl_drew ?_ | refine bl_drewN ?_ _)), rfl⟩
  · have r1 : decide (4096 < (p.trips.length : Int)) = false := by simp; omega
    have r2 : decide (256 < (p.rides.length : Int)) = true := by simp; omega
    have HhC := Lib.hid hC; clear hC; have HhT := Lib.hid hT; clear hT; have HhP := Lib.hid hP; clear hP; have Hh := Lib.hid h; clear h; have Hq1 := Lib.hid q1; clear q1; have Hq2 := Lib.hid q2; clear q2
    go_enter Try.func29, Try.ntmps29
    go_wp2_with (go_at_call 50; refine (HhC.out _ ((show Below w.heap.size w _ from (by repeat (first | exact Below.refl _ _ | (refine bl_setCell ?_ _ _ ?_; rotate_left; focus (first | omega | (simp; done) | (simp; omega))) | refine bl_alloc ?_ _ | refine bl_step ?_ (by assumption) | refine bl_drew ?_ | refine bl_drewN ?_ _))).mono hB) (by (first | omega | (simp; done) | (simp; omega)))).mono ?_; rintro e w1 ⟨rfl, hb1⟩; obtain ⟨_, _, _⟩ := bk (w.heap.size) hb1 (by (first | omega | (simp; done) | (simp; omega))); obtain ⟨_, _, _⟩ := bk (w.heap.size + 1) hb1 (by (first | omega | (simp; done) | (simp; omega))); have hzhb1 := bsz hb1; (try simp only [World.size_alloc] at hzhb1))
    go_ret2
    exact ⟨(by repeat (first | exact Below.refl _ _ | (refine bl_setCell ?_ _ _ ?_; rotate_left; focus (first | omega | (simp; done) | (simp; omega))) | refine bl_alloc ?_ _ | refine bl_step ?_ (by assumption) | refine bl_drew ?_ | refine bl_drewN ?_ _)), rfl⟩
  · have r1 : decide (4096 < (p.trips.length : Int)) = false := by simp; omega
    have r2 : decide (256 < (p.rides.length : Int)) = false := by simp; omega
    have HhC := Lib.hid hC; clear hC; have HhT := Lib.hid hT; clear hT; have HhP := Lib.hid hP; clear hP; have Hh := Lib.hid h; clear h; have Hq1 := Lib.hid q1; clear q1; have Hq2 := Lib.hid q2; clear q2
    go_enter Try.func29, Try.ntmps29
    go_wp2_with (first
      | (go_at_call 50; refine (HhC.out _ ((show Below w.heap.size w _ from (by repeat (first | exact Below.refl _ _ | (refine bl_setCell ?_ _ _ ?_; rotate_left; focus (first | omega | (simp; done) | (simp; omega))) | refine bl_alloc ?_ _ | refine bl_step ?_ (by assumption) | refine bl_drew ?_ | refine bl_drewN ?_ _))).mono hB) (by (first | omega | (simp; done) | (simp; omega)))).mono ?_; rintro e w1 ⟨rfl, hb1⟩; obtain ⟨_, _, _⟩ := bk (w.heap.size) hb1 (by (first | omega | (simp; done) | (simp; omega))); obtain ⟨_, _, _⟩ := bk (w.heap.size + 1) hb1 (by (first | omega | (simp; done) | (simp; omega))); have hzhb1 := bsz hb1; (try simp only [World.size_alloc] at hzhb1))
      | (go_at_call 51; refine (tripLong_val p.trips p1 d1 B true q3 _ (HhP.out.below ((show Below w.heap.size w _ from (by repeat (first | exact Below.refl _ _ | (refine bl_setCell ?_ _ _ ?_; rotate_left; focus (first | omega | (simp; done) | (simp; omega))) | refine bl_alloc ?_ _ | refine bl_step ?_ (by assumption) | refine bl_drew ?_ | refine bl_drewN ?_ _))).mono hB)).trips (by (first | omega | (simp; done) | (simp; omega)))).mono ?_; rintro e w2 ⟨rfl, hb2⟩; obtain ⟨_, _, _⟩ := bk (w.heap.size) hb2 (by (first | omega | (simp; done) | (simp; omega))); obtain ⟨_, _, _⟩ := bk (w.heap.size + 1) hb2 (by (first | omega | (simp; done) | (simp; omega))); have hzhb2 := bsz hb2; (try simp only [World.size_alloc] at hzhb2)))
    go_ret2
    exact ⟨(by repeat (first | exact Below.refl _ _ | (refine bl_setCell ?_ _ _ ?_; rotate_left; focus (first | omega | (simp; done) | (simp; omega))) | refine bl_alloc ?_ _ | refine bl_step ?_ (by assumption) | refine bl_drew ?_ | refine bl_drewN ?_ _)), rfl⟩
  · have r1 : decide (4096 < (p.trips.length : Int)) = false := by simp; omega
    have r2 : decide (256 < (p.rides.length : Int)) = false := by simp; omega
    have HhC := Lib.hid hC; clear hC; have HhT := Lib.hid hT; clear hT; have HhP := Lib.hid hP; clear hP; have Hh := Lib.hid h; clear h; have Hq1 := Lib.hid q1; clear q1; have Hq2 := Lib.hid q2; clear q2
    go_enter Try.func29, Try.ntmps29
    go_wp2_with (first
      | (go_at_call 50; refine (HhC.out _ ((show Below w.heap.size w _ from (by repeat (first | exact Below.refl _ _ | (refine bl_setCell ?_ _ _ ?_; rotate_left; focus (first | omega | (simp; done) | (simp; omega))) | refine bl_alloc ?_ _ | refine bl_step ?_ (by assumption) | refine bl_drew ?_ | refine bl_drewN ?_ _))).mono hB) (by (first | omega | (simp; done) | (simp; omega)))).mono ?_; rintro e w1 ⟨rfl, hb1⟩; obtain ⟨_, _, _⟩ := bk (w.heap.size) hb1 (by (first | omega | (simp; done) | (simp; omega))); obtain ⟨_, _, _⟩ := bk (w.heap.size + 1) hb1 (by (first | omega | (simp; done) | (simp; omega))); have hzhb1 := bsz hb1; (try simp only [World.size_alloc] at hzhb1))
      | (go_at_call 51; refine (tripLong_val p.trips p1 d1 B false q3 _ (HhP.out.below ((show Below w.heap.size w _ from (by repeat (first | exact Below.refl _ _ | (refine bl_setCell ?_ _ _ ?_; rotate_left; focus (first | omega | (simp; done) | (simp; omega))) | refine bl_alloc ?_ _ | refine bl_step ?_ (by assumption) | refine bl_drew ?_ | refine bl_drewN ?_ _))).mono hB)).trips (by (first | omega | (simp; done) | (simp; omega)))).mono ?_; rintro e w2 ⟨rfl, hb2⟩; obtain ⟨_, _, _⟩ := bk (w.heap.size) hb2 (by (first | omega | (simp; done) | (simp; omega))); obtain ⟨_, _, _⟩ := bk (w.heap.size + 1) hb2 (by (first | omega | (simp; done) | (simp; omega))); have hzhb2 := bsz hb2; (try simp only [World.size_alloc] at hzhb2))
      | (go_at_call 53; refine (rideLong_val p.rides p2 d2 B true q4 _ (HhP.out.below ((show Below w.heap.size w _ from (by repeat (first | exact Below.refl _ _ | (refine bl_setCell ?_ _ _ ?_; rotate_left; focus (first | omega | (simp; done) | (simp; omega))) | refine bl_alloc ?_ _ | refine bl_step ?_ (by assumption) | refine bl_drew ?_ | refine bl_drewN ?_ _))).mono hB)).rides (by (first | omega | (simp; done) | (simp; omega)))).mono ?_; rintro e w3 ⟨rfl, hb3⟩; obtain ⟨_, _, _⟩ := bk (w.heap.size) hb3 (by (first | omega | (simp; done) | (simp; omega))); obtain ⟨_, _, _⟩ := bk (w.heap.size + 1) hb3 (by (first | omega | (simp; done) | (simp; omega))); have hzhb3 := bsz hb3; (try simp only [World.size_alloc] at hzhb3)))
    go_ret2
    exact ⟨(by repeat (first | exact Below.refl _ _ | (refine bl_setCell ?_ _ _ ?_; rotate_left; focus (first | omega | (simp; done) | (simp; omega))) | refine bl_alloc ?_ _ | refine bl_step ?_ (by assumption) | refine bl_drew ?_ | refine bl_drewN ?_ _)), rfl⟩

theorem CkS.below {T : Town} {a1 a2 a3 a4 : Option Addr} {c1 c2 c3 c4 : Nat} {p : Plan} {p1 p2 : Option Addr} {d1 d2 : Nat} {w W W' : World} {ab mb : Nat} {a : Acc} (h : CkS T a1 a2 a3 a4 c1 c2 c3 c4 p p1 p2 d1 d2 w ab mb a W) (hb : Below W.heap.size W W') :
    CkS T a1 a2 a3 a4 c1 c2 c3 c4 p p1 p2 d1 d2 w ab mb a W' := ⟨bl_step h.bl hb, heap_below hb h.bt, heap_below hb h.bp, h.am.below hb, h.hab, h.hmb⟩
theorem CkS.keeps {T : Town} {a1 a2 a3 a4 : Option Addr} {c1 c2 c3 c4 : Nat} {p : Plan} {p1 p2 : Option Addr} {d1 d2 : Nat} {w W W' : World} {ab mb : Nat} {a a' : Acc} (h : CkS T a1 a2 a3 a4 c1 c2 c3 c4 p p1 p2 d1 d2 w ab mb a W) (hb : Keeps [ab, mb] W W')
    (ha : AccM T a1 a2 a3 a4 c1 c2 c3 c4 ab mb W' a') : CkS T a1 a2 a3 a4 c1 c2 c3 c4 p p1 p2 d1 d2 w ab mb a' W' := by
  have h1 := h.hab
  have h2 := h.hmb
  have h3 := lt_of_heap h.bt
  exact ⟨h.bl.trans (hb.below (by omega) (by simp; omega)), hb.heap h.bt (by simp; omega), hb.heap h.bp (by simp; omega), ha, h1, h2⟩

/-- use, in checked. -/
theorem use_ck {T : Town} {a1 a2 a3 a4 : Option Addr} {c1 c2 c3 c4 : Nat} {p : Plan} {p1 p2 : Option Addr} {d1 d2 : Nat} {w W : World} {ab mb : Nat} {a : Acc} (B : Nat) (hG : TownG T) (hT : TownM B w a1 a2 a3 a4 T) (hB : B ≤ w.heap.size)
    (h : CkS T a1 a2 a3 a4 c1 c2 c3 c4 p p1 p2 d1 d2 w ab mb a W) (x : Thing) (n : Int) (hx : ThingG T x) (hgx : goodT x) (hn : 0 ≤ n) :
    Calls Try.prog 56 #[.pointer (some ⟨ab, 0, none⟩), .agg #[.int .i64 x.kind, .int .i64 x.id, .int .i64 x.step], .int .i64 n] W
      fun e w' => e = .returned (.tuple #[]) ∧ Keeps [ab, mb] W w' ∧ CkS T a1 a2 a3 a4 c1 c2 c3 c4 p p1 p2 d1 d2 w ab mb (useT T a x n) w' := by
  refine (use_any T _ _ _ _ _ _ _ _ B ab mb x n W a hG (hT.below (h.bl.mono hB)) (Nat.le_trans hB h.bl.size) hx hgx hn h.am).mono ?_
  rintro e w' ⟨rfl, hk, ha⟩
  exact ⟨rfl, hk, h.keeps hk ha⟩
theorem enter_ck {T : Town} {a1 a2 a3 a4 : Option Addr} {c1 c2 c3 c4 : Nat} {p : Plan} {p1 p2 : Option Addr} {d1 d2 : Nat} {w W : World} {ab mb : Nat} {a : Acc} (B : Nat) (hG : TownG T) (hT : TownM B w a1 a2 a3 a4 T) (hB : B ≤ w.heap.size)
    (h : CkS T a1 a2 a3 a4 c1 c2 c3 c4 p p1 p2 d1 d2 w ab mb a W) (q s n : Int) (hq : 0 ≤ q ∧ q < (T.places.length : Int)) (hs : I64 s) (hn : 0 ≤ n) :
    Calls Try.prog 57 #[.pointer (some ⟨ab, 0, none⟩), .agg #[.int .i64 q, .int .i64 s], .int .i64 n] W
      fun e w' => e = .returned (.tuple #[]) ∧ Keeps [ab, mb] W w' ∧ CkS T a1 a2 a3 a4 c1 c2 c3 c4 p p1 p2 d1 d2 w ab mb (enterT T a q s n) w' := by
  have h1 := h.hab
  have h2 := h.hmb
  refine (enter_any T _ _ _ _ _ _ _ _ B ab mb q s n W a hG (hT.below (h.bl.mono hB)) (Nat.le_trans hB h.bl.size) (by omega) (by omega) hq hs hn h.am).mono ?_
  rintro e w' ⟨rfl, hk, ha⟩
  exact ⟨rfl, hk, h.keeps hk ha⟩

theorem tripsRun_drop (T : Town) (a : Acc) (l : List Trip) (k : Nat) (h : k < l.length) : tripsRun T a (l.drop k) = if (tripT T l[k]).2.2 = 0 then tripsRun T (tripUse T a l[k] (tripT T l[k]).1 (tripT T l[k]).2.1) (l.drop (k + 1)) else .bad (tripT T l[k]).2.2 := by
  rw [List.drop_eq_getElem_cons h]; rfl
theorem tripsRun_end (T : Town) (a : Acc) (l : List Trip) (k : Nat) (h : ¬ k < l.length) : tripsRun T a (l.drop k) = .ok a := by
  rw [List.drop_eq_nil_of_le (by omega)]; rfl
theorem hopsUse_drop (T : Town) (kd n : Int) (a : Acc) (l : List Hop) (k : Nat) (h : k < l.length) : hopsUse T kd n a (l.drop k) = hopsUse T kd n (useT T a ⟨kd, l[k].way, l[k].leave⟩ n) (l.drop (k + 1)) := by
  rw [List.drop_eq_getElem_cons h]; rfl
theorem hopsUse_end (T : Town) (kd n : Int) (a : Acc) (l : List Hop) (k : Nat) (h : ¬ k < l.length) : hopsUse T kd n a (l.drop k) = a := by
  rw [List.drop_eq_nil_of_le (by omega)]; rfl

/-- What follows the trips, and the rides. -/
def ckEnd (r : Res Acc) : Res Acc := match r with
  | .bad e => .bad e
  | .ok a => accEnd a
def ckRides (T : Town) (p : Plan) (r : Res Acc) : Res Acc := match r with
  | .bad e => .bad e
  | .ok a => ckEnd (ridesRun T a (T.vehicles.map fun v => (v.place, 0)) p.rides)
theorem checkedT_good {T : Town} {p : Plan} (h : checkT T = 0) (hl : longP p = false) : checkedT T p = ckRides T p (tripsRun T ⟨[], false, false⟩ (p.trips.drop 0)) := by
  unfold checkedT
  rw [if_neg (by simp [h]), if_neg (by simp [hl])]
  rfl

end Go.Proofs.Ytjoihijlcpnhoaa
