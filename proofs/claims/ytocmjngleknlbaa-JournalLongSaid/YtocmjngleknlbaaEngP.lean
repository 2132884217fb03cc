/-
  Maps: their entries, what is looked up, put, let go of, and gone through.
-/
import Derived.Test.YtocmjngleknlbaaEngN
import Derived.MapKept
import Derived.LaidEql
namespace Go.Proofs.Ytocmjngleknlbaa.K
open Go Go.Proofs Go.MapKept
variable {P : Program} {Γ Γ' : Mem} {L L' L'' : List HP} {w w' : World} {A B : HP}

section
variable {κ ν : Type}

/-- the map's block: its entries in the order of the model -/
structure MapIs (ek : κ → Value) (ev : ν → Value) (l : List (κ × ν)) (es : Array MapEntry) (clock : Nat) : Prop where
  keys : es.toList.map (·.key) = l.map (fun p => ek p.1)
  vals : es.toList.map (·.val) = l.map (fun p => ev p.2)
  born : ∀ e ∈ es.toList, e.born < clock
  apart : (es.toList.map (·.born)).Nodup
  nodup : (l.map (·.1)).Nodup

def MapR (ek : κ → Value) (ev : ν → Value) (r : Nat) (l : List (κ × ν)) : HP :=
  ⟨fun _ h => ∃ es clock, h r = some (.map es clock) ∧ MapIs ek ev l es clock, fun _ _ _ _ h => h⟩

variable {ek : κ → Value} {ev : ν → Value} {r it : Nat} {l left : List (κ × ν)}

theorem Sat.mapR (h : Sat Γ (MapR ek ev r l :: L) w) : ∃ es clock, MapIs ek ev l es clock ∧ Sat Γ (blk r (.map es clock) :: L) w := by
  obtain ⟨m, ⟨h1, h2, ha, he, ⟨es, c, hA, hI⟩, hL⟩, h4, h3⟩ := h
  exact ⟨es, c, hI, m, ⟨h1, h2, ha, he, hA, hL⟩, h4, h3⟩

theorem Sat.toMapR {es : Array MapEntry} {clock : Nat} (h : Sat Γ (blk r (.map es clock) :: L) w) (hI : MapIs ek ev l es clock) : Sat Γ (MapR ek ev r l :: L) w :=
  h.weaken fun _ hm => ⟨es, clock, hm, hI⟩

theorem MapIs.empty : MapIs ek ev [] #[] 0 := ⟨rfl, rfl, by simp, by simp, by simp⟩

theorem Sat.mapNew (h : Sat Γ (blk r (.map #[] 0) :: L) w) : Sat Γ (MapR ek ev r ([] : List (κ × ν)) :: L) w := h.toMapR .empty

theorem MapIs.size {es : Array MapEntry} {clock : Nat} (h : MapIs ek ev l es clock) : es.size = l.length := by
  have := congrArg List.length h.keys
  simpa using this

/-- a map that is gone through, and what of it is left -/
def MapIt (ek : κ → Value) (ev : ν → Value) (r it : Nat) (l left : List (κ × ν)) : HP :=
  ⟨fun Γ h => ∃ (es : Array MapEntry) (clock : Nat) (seen : Array Nat), (MapIs ek ev l es clock ∧ (es.toList.filter fun (e : MapEntry) => !seen.contains e.born).map (fun e => (e.key, e.val)) = left.map (fun p => (ek p.1, ev p.2))) ∧
    (HP.all [blk r (.map es clock), blk it (.mapIter (some r) clock seen clock)]).p Γ h, fun _ _ _ hl ⟨es, c, s, h1, h2⟩ => ⟨es, c, s, h1, HP.mono _ _ _ _ hl h2⟩⟩

theorem Sat.mapIt (h : Sat Γ (MapIt ek ev r it l left :: L) w) : ∃ es clock seen, MapIs ek ev l es clock ∧ (es.toList.filter fun (e : MapEntry) => !seen.contains e.born).map (fun e => (e.key, e.val)) = left.map (fun p => (ek p.1, ev p.2)) ∧
    Sat Γ (blk r (.map es clock) :: blk it (.mapIter (some r) clock seen clock) :: L) w := by
  obtain ⟨m, ⟨h1, h2, ha, he, ⟨es, c, s, ⟨hI, hf⟩, hA⟩, hL⟩, h4, h3⟩ := h
  exact ⟨es, c, s, hI, hf, Sat.all.1 ⟨m, ⟨h1, h2, ha, he, hA, hL⟩, h4, h3⟩⟩

theorem Sat.toMapIt {es : Array MapEntry} {clock : Nat} {seen : Array Nat} (h : Sat Γ (blk r (.map es clock) :: blk it (.mapIter (some r) clock seen clock) :: L) w) (hI : MapIs ek ev l es clock)
    (hf : (es.toList.filter fun (e : MapEntry) => !seen.contains e.born).map (fun e => (e.key, e.val)) = left.map (fun p => (ek p.1, ev p.2))) : Sat Γ (MapIt ek ev r it l left :: L) w := by
  have h' : Sat Γ (HP.all [blk r (.map es clock), blk it (.mapIter (some r) clock seen clock)] :: L) w := Sat.all.2 h
  exact h'.weaken fun _ hm => ⟨es, clock, seen, ⟨hI, hf⟩, hm⟩

end

section
variable {κ ν : Type} [DecidableEq κ]

/-- the entry of a key -/
def findE (k : κ) : List κ → List MapEntry → Nat → Option (Nat × Value)
  | k' :: ks, e :: es, i => if k = k' then some (i, e.val) else findE k ks es (i + 1)
  | _, _, _ => none

/-- keys of maps: how they are told; that the model finds them, where they are what they should be -/
structure KeyT (P : Program) {κ : Type} [DecidableEq κ] (kt : TypeId) (ek : κ → Value) (G : World → κ → Prop) : Prop where
  chk : ∀ (e : Bool) (k : κ) (w : World), (Instr.checkKey e 10000 kt (ek k)).run P w = .ok () w
  find : ∀ (k : κ) (es : List MapEntry) (ks : List κ) (w : World), es.map (·.key) = ks.map ek → G w k → (∀ k' ∈ ks, G w k') → (Instr.findKey kt (ek k) es).run P w = .ok (findE k ks es 0) w
  stays : ∀ (k : κ) (w : World), (Instr.keyThatStays (ek k) (ek k)).run P w = .ok (ek k) w

/-- what a list of pairs has at a key -/
def atK (l : List (κ × ν)) (k : κ) : Option ν := match l with
  | [] => none
  | p :: r => if k = p.1 then some p.2 else atK r k

def hasK (l : List (κ × ν)) (k : κ) : Bool := (atK l k).isSome

def putK (l : List (κ × ν)) (k : κ) (v : ν) : List (κ × ν) := match l with
  | [] => [(k, v)]
  | p :: r => if k = p.1 then (k, v) :: r else p :: putK r k v

def delK (l : List (κ × ν)) (k : κ) : List (κ × ν) := match l with
  | [] => []
  | p :: r => if k = p.1 then r else p :: delK r k

theorem delK_sub (l : List (κ × ν)) (k : κ) : (delK l k).Sublist l := by
  induction l with
  | nil => exact .refl _
  | cons p r ih => unfold delK; split; exact List.sublist_cons_self _ _; exact ih.cons_cons p

theorem putK_keys (l : List (κ × ν)) (k : κ) (v : ν) : (putK l k v).map (·.1) = l.map (·.1) ∨ (k ∉ l.map (·.1) ∧ (putK l k v).map (·.1) = l.map (·.1) ++ [k]) := by
  induction l with
  | nil => exact .inr ⟨by simp, rfl⟩
  | cons p r ih =>
    unfold putK
    split
    · rename_i h; exact .inl (by simp [h])
    · rename_i h
      rcases ih with ih | ⟨h1, ih⟩
      · exact .inl (by simp [ih])
      · exact .inr ⟨by simp [h]; simpa using h1, by simp [ih]⟩

theorem putK_nodup {l : List (κ × ν)} (h : (l.map (·.1)).Nodup) (k : κ) (v : ν) : ((putK l k v).map (·.1)).Nodup := by
  rcases putK_keys l k v with e | ⟨hk, e⟩
  · rw [e]; exact h
  · rw [e]; exact List.nodup_append.2 ⟨h, by simp, by intro a ha b hb; simp at hb; subst hb; rintro rfl; exact hk ha⟩

theorem delK_nodup {l : List (κ × ν)} (h : (l.map (·.1)).Nodup) (k : κ) : ((delK l k).map (·.1)).Nodup := ((delK_sub l k).map _).nodup h

theorem atK_put (l : List (κ × ν)) (k : κ) (v : ν) (k' : κ) : atK (putK l k v) k' = if k' = k then some v else atK l k' := by
  induction l with
  | nil => simp [putK, atK]
  | cons p r ih =>
    unfold putK
    split
    · rename_i h; subst h; simp only [atK]; split <;> rfl
    · rename_i h
      simp only [atK, ih]
      by_cases h1 : k' = p.1
      · rw [if_pos h1, if_pos h1, if_neg (by rintro rfl; exact h h1)]
      · rw [if_neg h1, if_neg h1]

theorem atK_none {l : List (κ × ν)} {k : κ} : atK l k = none ↔ k ∉ l.map (·.1) := by
  induction l with
  | nil => simp [atK]
  | cons p r ih =>
    simp only [atK, List.map_cons, List.mem_cons, not_or]
    split
    · rename_i h; simp [h]
    · rename_i h; rw [ih]; simp [h]

theorem atK_del {l : List (κ × ν)} (h : (l.map (·.1)).Nodup) (k k' : κ) : atK (delK l k) k' = if k' = k then none else atK l k' := by
  induction l with
  | nil => simp [delK, atK]
  | cons p r ih =>
    simp only [List.map_cons, List.nodup_cons] at h
    unfold delK
    split
    · rename_i e
      subst e
      by_cases h1 : k' = p.1
      · rw [if_pos h1, h1]; exact atK_none.2 h.1
      · rw [if_neg h1]; simp only [atK]; rw [if_neg h1]
    · rename_i e
      simp only [atK, ih h.2]
      by_cases h1 : k' = p.1
      · rw [if_pos h1, if_pos h1, if_neg (by rintro rfl; exact e h1)]
      · rw [if_neg h1, if_neg h1]

theorem atK_mem {l : List (κ × ν)} (h : (l.map (·.1)).Nodup) {k : κ} {v : ν} : atK l k = some v ↔ (k, v) ∈ l := by
  induction l with
  | nil => simp [atK]
  | cons p r ih =>
    simp only [List.map_cons, List.nodup_cons] at h
    simp only [atK, List.mem_cons]
    split
    · rename_i e
      subst e
      constructor
      · intro e; cases e; exact .inl rfl
      · rintro (e | e)
        · rw [← e]
        · exact absurd (List.mem_map_of_mem (f := (·.1)) e) h.1
    · rename_i e
      rw [ih h.2]
      constructor
      · exact .inr
      · rintro (rfl | e')
        · exact absurd rfl e
        · exact e'

variable {ek : κ → Value} {ev : ν → Value} {r it : Nat} {l left : List (κ × ν)}

/-- the entry that is found -/
theorem findE_at {k : κ} : ∀ (l : List (κ × ν)) (es : List MapEntry) (i : Nat), es.map (·.val) = l.map (fun p => ev p.2) →
    (atK l k = none ∧ findE k (l.map (·.1)) es i = none) ∨ ∃ j v, atK l k = some v ∧ l[j]? = some (k, v) ∧ findE k (l.map (·.1)) es i = some (i + j, ev v) ∧ (∀ v', putK l k v' = l.set j (k, v')) ∧ delK l k = l.eraseIdx j
  | [], _, _, _ => .inl ⟨rfl, rfl⟩
  | _ :: _, [], _, h => by simp at h
  | p :: l, e :: es, i, h => by
    simp only [List.map_cons, List.cons.injEq] at h
    simp only [findE, atK, List.map_cons]
    by_cases hk : k = p.1
    · rw [if_pos hk]
      exact .inr ⟨0, p.2, rfl, by rw [hk]; rfl, by rw [if_pos hk, h.1]; rfl, fun v' => by simp [putK, hk], by simp [delK, hk]⟩
    · rw [if_neg hk, if_neg hk]
      rcases findE_at (k := k) l es (i + 1) h.2 with ⟨h1, h2⟩ | ⟨j, v, h1, h2, h3, h4, h5⟩
      · exact .inl ⟨h1, h2⟩
      · exact .inr ⟨j + 1, v, h1, by simpa using h2, by rw [h3]; congr 2; omega, fun v' => by simp [putK, hk, h4], by simp [delK, hk, h5]⟩

theorem putK_none {k : κ} {v : ν} (h : atK l k = none) : putK l k v = l ++ [(k, v)] := by
  induction l with
  | nil => rfl
  | cons p r ih =>
    simp only [atK] at h
    split at h
    · cases h
    · rename_i e
      simp only [putK, if_neg e, ih h, List.cons_append]

theorem delK_none {k : κ} (h : atK l k = none) : delK l k = l := by
  induction l with
  | nil => rfl
  | cons p r ih =>
    simp only [atK] at h
    split at h
    · cases h
    · rename_i e
      simp only [delK, if_neg e, ih h]

theorem run_getMap {es : Array MapEntry} {clock : Nat} (h : Sat Γ (blk r (.map es clock) :: L) w) : (getObj r).run P w = .ok (.map es clock) w := MapKept.run_getObj_map h.heap

/-- what the model does to a block that holds a map -/
theorem Sat.setMap {o o' : Obj} (h : Sat Γ (blk r o :: L) w) : Sat Γ (blk r o' :: L) { w with heap := w.heap.setIfInBounds r o' } :=
  h.set (MapKept.heap_set h.heap).1 (MapKept.heap_set h.heap).2

theorem MapIs.findE {es : Array MapEntry} {clock : Nat} {kt : TypeId} {G : World → κ → Prop} (hk : KeyT P kt ek G) (h : MapIs ek ev l es clock) (k : κ) (w : World) (hg : G w k) (hgl : ∀ p ∈ l, G w p.1) : (Instr.findKey kt (ek k) es.toList).run P w = .ok (K.findE k (l.map (·.1)) es.toList 0) w :=
  hk.find k _ _ w (by rw [h.keys]; simp) hg (fun k' hk' => by obtain ⟨p, hp, e⟩ := List.mem_map.1 hk'; rw [← e]; exact hgl p hp)

theorem MapIs.put {es : Array MapEntry} {clock : Nat} (h : MapIs ek ev l es clock) (k : κ) (v : ν) (hn : atK l k = none) : MapIs ek ev (putK l k v) (es.push ⟨ek k, ev v, clock⟩) (clock + 1) := by
  refine ⟨?_, ?_, fun e he => ?_, ?_, putK_nodup h.nodup k v⟩
  · rw [putK_none hn]; simp [h.keys]
  · rw [putK_none hn]; simp [h.vals]
  · simp only [Array.toList_push, List.mem_append, List.mem_singleton] at he
    rcases he with he | rfl
    · exact Nat.lt_succ_of_lt (h.born e he)
    · exact Nat.lt_succ_self _
  · simp only [Array.toList_push, List.map_append, List.map_cons, List.map_nil]
    refine List.nodup_append.2 ⟨h.apart, by simp, ?_⟩
    intro a ha b hb
    simp only [List.mem_singleton] at hb
    subst hb
    obtain ⟨x, hx, rfl⟩ := List.mem_map.1 ha
    exact Nat.ne_of_lt (h.born x hx)

theorem toList_modify' (es : Array MapEntry) (j : Nat) (f : MapEntry → MapEntry) : (es.modify j f).toList = es.toList.modify j f := by
  apply List.ext_getElem?
  intro i
  simp [Array.getElem?_modify, List.getElem?_modify]

theorem MapIs.mod {es : Array MapEntry} {clock : Nat} (h : MapIs ek ev l es clock) (k : κ) (v v0 : ν) {j : Nat} (hj : l[j]? = some (k, v0)) (hp : putK l k v = l.set j (k, v)) : MapIs ek ev (putK l k v) (es.modify j fun e => { e with key := ek k, val := ev v }) clock := by
  have hb : (es.modify j fun e => { e with key := ek k, val := ev v }).toList.map (·.born) = es.toList.map (·.born) := by
    apply List.ext_getElem?
    intro i
    rw [toList_modify']
    simp only [List.getElem?_map, List.getElem?_modify]
    cases es.toList[i]? with
    | none => simp
    | some e => by_cases hij : j = i <;> simp [hij]
  have hat : ∀ {β : Type} (g : MapEntry → β) (a : β) (q : κ × ν → β), (es.toList.map g = l.map q) → (∀ e : MapEntry, g { e with key := ek k, val := ev v } = q (k, v)) → (es.modify j fun e => { e with key := ek k, val := ev v }).toList.map g = (l.set j (k, v)).map q := by
    intro β g a q hg hq
    apply List.ext_getElem?
    intro i
    rw [toList_modify']
    have hi := congrArg (fun x => x[i]?) hg
    simp only [List.getElem?_map, List.getElem?_modify, List.getElem?_set] at hi ⊢
    by_cases hij : j = i
    · subst hij
      rw [hj] at hi
      have hl : j < l.length := (List.getElem?_eq_some_iff.1 hj).1
      cases he : es.toList[j]? with
      | none => rw [he] at hi; cases hi
      | some e => simp [hl, hq]
    · simpa [hij] using hi
  refine ⟨by rw [hp]; exact hat (·.key) (ek k) _ h.keys fun _ => rfl, by rw [hp]; exact hat (·.val) (ev v) _ h.vals fun _ => rfl, fun e he => ?_, by rw [hb]; exact h.apart, putK_nodup h.nodup k v⟩
  have : e.born ∈ es.toList.map (·.born) := by rw [← hb]; exact List.mem_map_of_mem he
  obtain ⟨e', he', e1⟩ := List.mem_map.1 this
  rw [← e1]; exact h.born e' he'

theorem MapIs.del {es : Array MapEntry} {clock : Nat} (h : MapIs ek ev l es clock) (k : κ) {j : Nat} (hj : j < l.length) (hd : delK l k = l.eraseIdx j) : MapIs ek ev (delK l k) (es.eraseIdxIfInBounds j) clock := by
  have hl : (es.eraseIdxIfInBounds j).toList = es.toList.eraseIdx j := by
    unfold Array.eraseIdxIfInBounds
    rw [dif_pos (by rw [h.size]; exact hj)]
    simp
  have hs : (es.toList.eraseIdx j).Sublist es.toList := List.eraseIdx_sublist _ _
  have hm : ∀ {α β : Type} (f : α → β) (l : List α) (j : Nat), (l.eraseIdx j).map f = (l.map f).eraseIdx j := by
    intro α β f l
    induction l with
    | nil => intro j; rfl
    | cons x l ih => intro j; cases j with
      | zero => rfl
      | succ j => simp [ih]
  refine ⟨?_, ?_, fun e he => ?_, ?_, delK_nodup h.nodup k⟩
  · rw [hl, hd, hm, h.keys, hm]
  · rw [hl, hd, hm, h.vals, hm]
  · rw [hl] at he; exact h.born e (hs.subset he)
  · rw [hl]; exact (hs.map _).nodup h.apart

/-- what is looked up: one value -/
theorem lookM {mt kt et : TypeId} {k : κ} {r0 : Rs} {z : Value} {K : r0.T → World → Prop} (x : Option ν → r0.T) {G : World → κ → Prop} (hk : KeyT P kt ek G) (hm : P.underlying mt = some (.map kt et)) (hz : ∀ w : World, (zeroValue et).run P w = .ok z w) (h : Sat Γ L w) (pk : Pick (MapR ek ev r l) L L')
    (hv : ∀ v, r0.v (x (some v)) = ev v) (hv0 : r0.v (x none) = z) (c : K (x (atK l k)) w) (hg : G w k := by trivial) (hgl : ∀ p ∈ l, G w p.1 := by intros; trivial) : Prim P (Instr.lookup mt (.map (some r)) (ek k) false) r0 K w := by
  obtain ⟨es, clock, hI, h1⟩ := (h.pick pk).mapR
  refine ⟨x (atK l k), w, ?_, c⟩
  unfold Instr.lookup
  simp only [Sem.run_bind, run_underlying hm, Result.andThen, run_getMap h1, Sem.run_pure, hk.chk, hI.findE hk k w hg hgl]
  rcases findE_at (k := k) l es.toList 0 hI.vals with ⟨h2, h3⟩ | ⟨j, v, h2, _, h3, _⟩
  · rw [h3, h2]
    simp only [Sem.run_bind, hz, Result.andThen, Sem.run_pure, hv0]
    rfl
  · rw [h3, h2]
    simp only [Sem.run_pure, Result.andThen, hv]
    rfl

/-- what is looked up: a value, and whether there is one -/
theorem lookM2 {mt kt et : TypeId} {k : κ} {r0 : Rs} {z : Value} {K : r0.T → World → Prop} (x : Option ν → r0.T) {G : World → κ → Prop} (hk : KeyT P kt ek G) (hm : P.underlying mt = some (.map kt et)) (hz : ∀ w : World, (zeroValue et).run P w = .ok z w) (h : Sat Γ L w) (pk : Pick (MapR ek ev r l) L L')
    (hv : ∀ v, r0.v (x (some v)) = .tuple #[ev v, .bool true]) (hv0 : r0.v (x none) = .tuple #[z, .bool false]) (c : K (x (atK l k)) w) (hg : G w k := by trivial) (hgl : ∀ p ∈ l, G w p.1 := by intros; trivial) : Prim P (Instr.lookup mt (.map (some r)) (ek k) true) r0 K w := by
  obtain ⟨es, clock, hI, h1⟩ := (h.pick pk).mapR
  refine ⟨x (atK l k), w, ?_, c⟩
  unfold Instr.lookup
  simp only [Sem.run_bind, run_underlying hm, Result.andThen, run_getMap h1, Sem.run_pure, hk.chk, hI.findE hk k w hg hgl]
  rcases findE_at (k := k) l es.toList 0 hI.vals with ⟨h2, h3⟩ | ⟨j, v, h2, _, h3, _⟩
  · rw [h3, h2]
    simp only [Sem.run_bind, hz, Result.andThen, Sem.run_pure, hv0]
    rfl
  · rw [h3, h2]
    simp only [Sem.run_pure, Result.andThen, hv]
    rfl

/-- what is put -/
theorem putM {mt kt et : TypeId} {k : κ} {v : ν} {K : World → Prop} {G : World → κ → Prop} (hk : KeyT P kt ek G) (hm : P.underlying mt = some (.map kt et)) (h : Sat Γ L w) (pk : Pick (MapR ek ev r l) L L')
    (c : ∀ w', Sat Γ (MapR ek ev r (putK l k v) :: L') w' → K w') (hg : G w k := by trivial) (hgl : ∀ p ∈ l, G w p.1 := by intros; trivial) : PrimU P (Instr.mapUpdate mt (.map (some r)) (ek k) (ev v)) K w := by
  obtain ⟨es, clock, hI, h1⟩ := (h.pick pk).mapR
  rcases findE_at (k := k) l es.toList 0 hI.vals with ⟨h2, h3⟩ | ⟨j, v0, h2, h4, h3, h5, _⟩
  · refine ⟨{ w with heap := w.heap.setIfInBounds r (.map (es.push ⟨ek k, ev v, clock⟩) (clock + 1)) }, ?_, c _ (h1.setMap.toMapR (hI.put k v h2))⟩
    unfold Instr.mapUpdate
    simp only [Sem.run_bind, run_underlying hm, Result.andThen, run_getMap h1, Sem.run_pure, hk.chk, hI.findE hk k w hg hgl, h3]
    exact run_setObj_map _ h1.heap
  · refine ⟨{ w with heap := w.heap.setIfInBounds r (.map (es.modify j fun e => { e with key := ek k, val := ev v }) clock) }, ?_, c _ (h1.setMap.toMapR (hI.mod k v v0 h4 (h5 v)))⟩
    have hkey : ((es[j]?).map (·.key)).getD (ek k) = ek k := by
      have := congrArg (fun x => x[j]?) hI.keys
      simp only [List.getElem?_map, h4, Option.map_some, Array.getElem?_toList] at this
      rw [this]; rfl
    unfold Instr.mapUpdate
    simp only [Sem.run_bind, run_underlying hm, Result.andThen, run_getMap h1, Sem.run_pure, hk.chk, hI.findE hk k w hg hgl, h3, Nat.zero_add, hkey, hk.stays]
    exact run_setObj_map _ h1.heap

/-- what is let go of -/
theorem delM {mt kt et ty : TypeId} {k : κ} {K : PUnit → World → Prop} {G : World → κ → Prop} (hk : KeyT P kt ek G) (hm : P.underlying mt = some (.map kt et)) (h : Sat Γ L w) (pk : Pick (MapR ek ev r l) L L')
    (c : ∀ w', Sat Γ (MapR ek ev r (delK l k) :: L') w' → K ⟨⟩ w') (hg : G w k := by trivial) (hgl : ∀ p ∈ l, G w p.1 := by intros; trivial) : Prim P (Builtin.delete_ #[mt, kt] ty #[.map (some r), ek k]) (.tup []) K w := by
  obtain ⟨es, clock, hI, h1⟩ := (h.pick pk).mapR
  rcases findE_at (k := k) l es.toList 0 hI.vals with ⟨h2, h3⟩ | ⟨j, v0, h2, h4, h3, _, h5⟩
  · refine ⟨⟨⟩, { w with heap := w.heap.setIfInBounds r (.map es clock) }, ?_, c _ (h1.setMap.toMapR (by rw [delK_none h2]; exact hI))⟩
    simp [Builtin.delete_, run_underlying hm, Result.andThen, run_getMap h1, hk.chk, hI.findE hk k w hg hgl, h3, run_setObj_map _ h1.heap]
    rfl
  · have hj : j < l.length := (List.getElem?_eq_some_iff.1 h4).1
    refine ⟨⟨⟩, { w with heap := w.heap.setIfInBounds r (.map (es.eraseIdxIfInBounds j) clock) }, ?_, c _ (h1.setMap.toMapR (hI.del k hj h5))⟩
    simp [Builtin.delete_, run_underlying hm, Result.andThen, run_getMap h1, hk.chk, hI.findE hk k w hg hgl, h3, run_setObj_map _ h1.heap]
    rfl

end

section
variable {κ ν : Type} {ek : κ → Value} {ev : ν → Value} {r it : Nat} {l left : List (κ × ν)}

theorem lenM {K : Nat → Prop} (h : Sat Γ L w) (pk : Pick (MapR ek ev r l) L L') (c : K l.length) : LenM (fun w' => w' = w) (some r) K := by
  obtain ⟨es, clock, hI, h1⟩ := (h.pick pk).mapR
  exact ⟨l.length, fun w' hw => by subst hw; exact ⟨es, clock, h1.heap, hI.size⟩, c⟩

theorem lenMH {K : Nat → Prop} {L0 : List HP} (pk : Pick (MapR ek ev r l) L0 L') (c : K l.length) : LenM (Sx Γ L0) (some r) K := by
  refine ⟨l.length, ?_, c⟩
  rintro w' ⟨Γ', _, h⟩
  obtain ⟨es, clock, hI, h1⟩ := (h.pick pk).mapR
  exact ⟨es, clock, h1.heap, hI.size⟩

/-! ### going through a map -/

theorem Sat.swap2 (h : Sat Γ (A :: B :: L) w) : Sat Γ (B :: A :: L) w := h.pick (.there .here)

/-- what was gone through is a map again -/
theorem Sat.itMap (h : Sat Γ L w) (pk : Pick (MapIt ek ev r it l left) L L') : Sat Γ (MapR ek ev r l :: L') w := by
  obtain ⟨es, c, s, hI, _, h1⟩ := (h.pick pk).mapIt
  exact ((h1.pick (.there .here)).drop).toMapR hI

theorem rangeM {mt kt et : TypeId} {K : Option Addr → World → Prop} (hm : P.underlying mt = some (.map kt et)) (h : Sat Γ L w) (pk : Pick (MapR ek ev r l) L L')
    (c : ∀ it w', Sat Γ (MapIt ek ev r it l l :: L') w' → K (some ⟨it, 0, none⟩) w') : Prim P (Instr.range mt (.map (some r))) (.one (.s .ptr)) K w := by
  obtain ⟨es, clock, hI, h1⟩ := (h.pick pk).mapR
  refine ⟨some ⟨w.heap.size, 0, none⟩, { w with heap := w.heap.push (.mapIter (some r) clock #[] clock) }, ?_, c _ _ ((h1.new _).swap2.toMapIt hI ?_)⟩
  · unfold Instr.range
    simp only [Sem.run_bind, run_underlying hm, Result.andThen, run_getMap h1, Sem.run_pure]
    rfl
  · have e : (es.toList.filter fun e => !(#[] : Array Nat).contains e.born) = es.toList := by simp
    rw [e]
    have h1 := hI.keys
    have h2 := hI.vals
    apply List.ext_getElem?
    intro i
    have h3 := congrArg (fun x => x[i]?) h1
    have h4 := congrArg (fun x => x[i]?) h2
    simp only [List.getElem?_map] at h3 h4 ⊢
    cases ha : es.toList[i]? <;> cases hb : l[i]? <;> rw [ha, hb] at h3 h4 <;> simp_all

theorem filter_seen {es : List MapEntry} (hn : (es.map (·.born)).Nodup) {seen : Array Nat} {A B : List MapEntry} {e : MapEntry} (h : (es.filter fun (e : MapEntry) => !seen.contains e.born) = A ++ e :: B) :
    (es.filter fun x => !(seen.push e.born).contains x.born) = A ++ B := by
  have e1 : (es.filter fun x => !(seen.push e.born).contains x.born) = (es.filter fun x => !seen.contains x.born).filter fun x => !decide (x.born = e.born) := by
    rw [List.filter_filter]
    apply List.filter_congr
    intro x _
    simp only [Array.contains_push, Bool.not_or]
    by_cases hx : x.born = e.born <;> simp [hx, Bool.and_comm]
  have hn2 : ((A ++ e :: B).map (·.born)).Nodup := by rw [← h]; exact ((List.filter_sublist).map _).nodup hn
  rw [e1, h, List.filter_append, List.filter_cons]
  simp only [List.map_append, List.map_cons] at hn2
  obtain ⟨_, h2, h3⟩ := List.nodup_append.1 hn2
  have hA : A.filter (fun x => !decide (x.born = e.born)) = A := by
    rw [List.filter_eq_self]
    intro x hx
    have := h3 x.born (List.mem_map_of_mem hx) e.born (by simp)
    simp [this]
  have hB : B.filter (fun x => !decide (x.born = e.born)) = B := by
    rw [List.filter_eq_self]
    intro x hx
    have : x.born ≠ e.born := fun e' => (List.nodup_cons.1 h2).1 (by rw [← e']; exact List.mem_map_of_mem hx)
    simp [this]
  rw [hA, hB]
  simp

/-- .. and that one stands at an entry -/
def MapAt (ek : κ → Value) (ev : ν → Value) (r it : Nat) (l left : List (κ × ν)) (k : κ) (v : ν) : HP :=
  ⟨fun Γ h => ∃ (es : Array MapEntry) (clock : Nat) (seen : Array Nat) (e : MapEntry), (MapIs ek ev l es clock ∧ (es.toList.filter fun (e : MapEntry) => !seen.contains e.born).map (fun e => (e.key, e.val)) = left.map (fun p => (ek p.1, ev p.2)) ∧
      e ∈ es.toList ∧ seen.back? = some e.born ∧ e.key = ek k ∧ e.val = ev v) ∧
    (HP.all [blk r (.map es clock), blk it (.mapIter (some r) clock seen clock)]).p Γ h, fun _ _ _ hl ⟨es, c, s, e, h1, h2⟩ => ⟨es, c, s, e, h1, HP.mono _ _ _ _ hl h2⟩⟩

theorem find_born {es : List MapEntry} (hn : (es.map (·.born)).Nodup) {e : MapEntry} (he : e ∈ es) : es.find? (fun x => x.born == e.born) = some e := by
  induction es with
  | nil => cases he
  | cons x es ih =>
    simp only [List.map_cons, List.nodup_cons] at hn
    rw [List.find?_cons]
    rcases List.mem_cons.1 he with rfl | he
    · simp
    · have : (x.born == e.born) = false := by
        rw [beq_eq_false_iff_ne]
        exact fun e' => hn.1 (by rw [e']; exact List.mem_map_of_mem he)
      rw [this]
      exact ih hn.2 he

theorem entryM {k : κ} {v : ν} {K : List Value → World → Prop} (h : Sat Γ L w) (pk : Pick (MapAt ek ev r it l left k v) L L') (c : Sat Γ (MapIt ek ev r it l left :: L') w → K [ek k, ev v] w) :
    PrimN P (Instr.entry (.pointer (some ⟨it, 0, none⟩))) K w := by
  obtain ⟨m, ⟨h1, h2, ha, he, ⟨es, clock, seen, e, ⟨hI, hf, hm, hb, hk, hv⟩, hA⟩, hL⟩, h4, h3⟩ := h.pick pk
  have h5 : Sat Γ (blk r (.map es clock) :: blk it (.mapIter (some r) clock seen clock) :: L') w := Sat.all.1 ⟨m, ⟨h1, h2, ha, he, hA, hL⟩, h4, h3⟩
  have hi : w.heap[it]? = some (.mapIter (some r) clock seen clock) := h5.swap2.heap
  have g1 : (getObj it).run P w = .ok (.mapIter (some r) clock seen clock) w := by simp [getObj, Sem.run, hi]
  have g2 : (getObj r).run P w = .ok (.map es clock) w := MapKept.run_getObj_map h5.heap
  refine ⟨[ek k, ev v], w, ?_, c (h5.toMapIt hI hf)⟩
  have hfd : es.find? (fun x => x.born == e.born) = some e := by rw [← Array.find?_toList]; exact find_born hI.apart hm
  unfold Instr.entry
  simp only [Sem.run_bind, g1, Result.andThen, hb, g2, bne_self_eq_false, Bool.false_eq_true, if_false, Sem.run_pure, hfd, hk, hv]

theorem nextM {ty : TypeId} {K : List Value → World → Prop} (h : Sat Γ L w) (pk : Pick (MapIt ek ev r it l left) L L')
    (c0 : left = [] → ∀ w', Sat Γ (MapIt ek ev r it l [] :: L') w' → K [.bool false] w')
    (c1 : ∀ l1 k v l2, left = l1 ++ (k, v) :: l2 → ∀ w', Sat Γ (MapAt ek ev r it l (l1 ++ l2) k v :: L') w' → K [.bool true, ek k, ev v] w') :
    PrimN P (Instr.next (.pointer (some ⟨it, 0, none⟩)) false ty) K w := by
  obtain ⟨es, clock, seen, hI, hf, h1⟩ := (h.pick pk).mapIt
  have hr : w.heap[r]? = some (.map es clock) := h1.heap
  have hi : w.heap[it]? = some (.mapIter (some r) clock seen clock) := h1.swap2.heap
  have g1 : (getObj it).run P w = .ok (.mapIter (some r) clock seen clock) w := by simp [getObj, Sem.run, hi]
  have g2 : (getObj r).run P w = .ok (.map es clock) w := MapKept.run_getObj_map hr
  have hc : (!seen.isEmpty && !es.isEmpty && es.all (fun e => decide (e.born ≥ clock))) = false := by
    cases hes : es.toList with
    | nil => have : es = #[] := by simpa using hes
             subst this; simp
    | cons e t =>
      have hb := hI.born e (by rw [hes]; simp)
      have : es.all (fun e => decide (e.born ≥ clock)) = false := by
        rw [← Array.all_toList, hes, List.all_cons]
        have : decide (e.born ≥ clock) = false := by simp; omega
        rw [this]; rfl
      rw [this]; simp
  have hold : (es.filter fun (e : MapEntry) => !seen.contains e.born).filter (fun e => decide (e.born < clock)) = es.filter fun e => !seen.contains e.born := by
    rw [Array.filter_eq_self]
    intro e he
    have := hI.born e (by have := Array.mem_filter.1 he; exact Array.mem_toList_iff.2 this.1)
    simp [this]
  have hnew : (es.filter fun (e : MapEntry) => !seen.contains e.born).filter (fun e => decide (e.born ≥ clock)) = #[] := by
    rw [Array.filter_eq_empty_iff]
    intro e he
    have := hI.born e (by have := Array.mem_filter.1 he; exact Array.mem_toList_iff.2 this.1)
    simp; omega
  have hns : ∀ e : MapEntry, True := fun _ => trivial
  have run : ∀ (n : Nat) (w1 : World) (x : Option MapEntry), (choose (.mapNext (((if (es.filter fun (e : MapEntry) => !seen.contains e.born).isEmpty then #[none] else #[]) ++ (es.filter fun (e : MapEntry) => !seen.contains e.born).map some).size))).run P w = .ok n w1 →
      ((if (es.filter fun (e : MapEntry) => !seen.contains e.born).isEmpty then #[none] else #[]) ++ (es.filter fun (e : MapEntry) => !seen.contains e.born).map some)[n]? = some x →
      (Instr.next (.pointer (some ⟨it, 0, none⟩)) false ty).run P w = (match x with
        | some e => (do setObj it (.mapIter (some r) clock (seen.push e.born) clock); pure (.tuple #[.bool true, e.key, e.val]) : Sem Value).run P w1
        | none => (pure (.tuple #[.bool false]) : Sem Value).run P w1) := by
    intro n w1 x h1 h2
    unfold Instr.next
    simp only [Sem.run_bind, g1, g2, Result.andThen, hc, Bool.false_eq_true, if_false, hold, hnew, Array.append_empty, Sem.run_pure]
    rw [h1]
    simp only [Result.andThen, h2]
    cases x with
    | none => rfl
    | some e =>
      show Sem.run P (do setObj it (.mapIter (some r) clock (seen.push e.born) clock); pure (Value.tuple #[Value.bool true, e.key, e.val])) w1 = _
      rw [Sem.run_bind]
      dsimp only
      cases Sem.run P (setObj it (.mapIter (some r) clock (seen.push e.born) clock)) w1 <;> rfl
  have hlen : (es.toList.filter fun (e : MapEntry) => !seen.contains e.born).length = left.length := by simpa using congrArg List.length hf
  cases hl : left with
  | nil =>
    subst hl
    have he : (es.filter fun (e : MapEntry) => !seen.contains e.born) = #[] := by
      rw [← Array.toList_inj, Array.toList_filter]
      exact List.eq_nil_of_length_eq_zero hlen
    refine ⟨[.bool false], w, ?_, c0 rfl w (h1.toMapIt hI (by simpa using hf))⟩
    rw [run 0 w none (by rw [he]; simp [run_choose, Question.forced]) (by rw [he]; simp)]
    rfl
  | cons p0 rest =>
    have hne : (es.filter fun (e : MapEntry) => !seen.contains e.born).isEmpty = false := by
      rw [Bool.eq_false_iff]
      intro hE
      have : (es.filter fun (e : MapEntry) => !seen.contains e.born) = #[] := by simpa using hE
      rw [← Array.toList_inj, Array.toList_filter] at this
      rw [this, hl] at hlen
      simp at hlen
    have hsz : (es.filter fun (e : MapEntry) => !seen.contains e.born).size = left.length := by rw [← hlen, ← Array.toList_filter, Array.length_toList]
    have hpos : 0 < left.length := by rw [hl]; simp
    -- what is drawn
    obtain ⟨n, w1, hn, hd, hw⟩ : ∃ n w1, n < left.length ∧ (choose (.mapNext (((if (es.filter fun (e : MapEntry) => !seen.contains e.born).isEmpty then #[none] else #[]) ++ (es.filter fun (e : MapEntry) => !seen.contains e.born).map some).size))).run P w = .ok n w1 ∧ (w1 = w ∨ w1 = { w with drawn := w.drawn + 1 }) := by
      have hs : ((if (es.filter fun (e : MapEntry) => !seen.contains e.born).isEmpty then #[none] else #[]) ++ (es.filter fun (e : MapEntry) => !seen.contains e.born).map some).size = left.length := by rw [hne]; simpa using hsz
      rw [hs]
      by_cases h1 : left.length ≤ 1
      · exact ⟨0, w, hpos, by simp [run_choose, Question.forced, h1], .inl rfl⟩
      · exact ⟨_, _, Nat.mod_lt _ hpos, by simp [run_choose, Question.forced, h1, Question.cut]; rfl, .inr rfl⟩
    obtain ⟨e, hen⟩ : ∃ e, (es.toList.filter fun (e : MapEntry) => !seen.contains e.born)[n]? = some e := get_lt (by rw [hlen]; exact hn)
    have hx : ((if (es.filter fun (e : MapEntry) => !seen.contains e.born).isEmpty then #[none] else #[]) ++ (es.filter fun (e : MapEntry) => !seen.contains e.born).map some)[n]? = some (some e) := by
      rw [hne]
      simp only [Bool.false_eq_true, if_false, Array.empty_append, Array.getElem?_map]
      rw [← Array.getElem?_toList, Array.toList_filter, hen]
      rfl
    have hrun := run n w1 (some e) hd hx
    obtain ⟨p, hp⟩ := get_lt (xs := left) hn
    have hpe : (e.key, e.val) = (ek p.1, ev p.2) := by
      have := congrArg (fun x => x[n]?) hf
      simp only [List.getElem?_map, hen, hp, Option.map_some] at this
      exact Option.some.inj this
    have spl : ∀ {α : Type} (l : List α) (n : Nat) (x : α), l[n]? = some x → l = l.take n ++ x :: l.drop (n + 1) := by
      intro α l
      induction l with
      | nil => intro n x h; simp at h
      | cons y l ih =>
        intro n x h
        cases n with
        | zero => simp at h; subst h; simp
        | succ n => simp at h; simp only [List.take_succ_cons, List.cons_append, List.drop_succ_cons]; rw [← ih n x h]
    have hsplit : (es.toList.filter fun (e : MapEntry) => !seen.contains e.born) = (es.toList.filter fun (e : MapEntry) => !seen.contains e.born).take n ++ e :: (es.toList.filter fun (e : MapEntry) => !seen.contains e.born).drop (n + 1) := by
      exact spl _ _ _ hen
    have hsp2 : left = left.take n ++ p :: left.drop (n + 1) := spl _ _ _ hp
    simp only [Prod.mk.injEq] at hpe
    refine ⟨[.bool true, ek p.1, ev p.2], { w1 with heap := w1.heap.setIfInBounds it (.mapIter (some r) clock (seen.push e.born) clock) }, ?_, ?_⟩
    · rw [hrun]
      have hi1 : w1.heap[it]? = some (.mapIter (some r) clock seen clock) := by rcases hw with rfl | rfl <;> exact hi
      simp only [Sem.run_bind]
      have : (setObj it (.mapIter (some r) clock (seen.push e.born) clock)).run P w1 = .ok () { w1 with heap := w1.heap.setIfInBounds it (.mapIter (some r) clock (seen.push e.born) clock) } := by simp [setObj, Sem.run, hi1]
      rw [this, hpe.1, hpe.2]
      rfl
    · refine c1 (left.take n) p.1 p.2 (left.drop (n + 1)) (hl ▸ hsp2) _ ?_
      have h2 : Sat Γ (blk r (.map es clock) :: blk it (.mapIter (some r) clock seen clock) :: L') w1 := by rcases hw with rfl | rfl; exact h1; exact h1.drew
      have h5 : Sat Γ (HP.all [blk r (.map es clock), blk it (.mapIter (some r) clock (seen.push e.born) clock)] :: L') _ := Sat.all.2 (h2.swap2.setMap.swap2)
      refine h5.weaken fun _ hm => ⟨es, clock, seen.push e.born, e, ⟨hI, ?_, ?_, by simp, hpe.1, hpe.2⟩, hm⟩
      rotate_left
      · exact (List.mem_filter.1 (List.mem_of_getElem? hen)).1
      rw [filter_seen hI.apart hsplit]
      have e3 := congrArg (List.take n) hf
      have e4 := congrArg (List.drop (n + 1)) hf
      rw [← List.map_take, ← List.map_take] at e3
      rw [← List.map_drop, ← List.map_drop] at e4
      rw [List.map_append, List.map_append, e3, e4]

end

/-! ### keys -/

def ekS (s : List UInt8) : Value := .string (str s)
def ekP (o : Option Nat) : Value := .pointer (o.map fun b => ⟨b, 0, none⟩)
def noG {κ : Type} (_ : World) (_ : κ) : Prop := True
/-- a block of cells, nowhere frozen -/
def goodP (w : World) (o : Option Nat) : Prop := ∀ b, o = some b → ∃ c T, w.heap[b]? = some (.cells c T (0, 0))

theorem KeyT.str {kt : TypeId} (h : P.underlying kt = some .string) : KeyT P kt ekS noG where
  chk := fun e k w => run_checkKey h (by trivial) e 9999
  stays := fun k w => run_keyThatStays (d := .string) (by trivial)
  find := by
    intro k es ks w hk _ _
    refine run_findKey h ?_
    have : ∀ (ks : List (List UInt8)) (es : List MapEntry) (i : Nat), es.map (·.key) = ks.map ekS → Instr.findNow .string (ekS k) es i = some (findE k ks es i) := by
      intro ks
      induction ks with
      | nil => intro es i h; have : es = [] := by simpa using h
               subst this; rfl
      | cons k' ks ih =>
        intro es i h
        cases es with
        | nil => simp at h
        | cons e es =>
          simp only [List.map_cons, List.cons.injEq] at h
          have e1 : Instr.sameNow .string (ekS k) e.key = some (decide (k = k')) := by
            rw [h.1]
            simp only [ekS, Instr.sameNow]
            congr 1
            rw [Bool.eq_iff_iff, MapKept.bytes_beq, decide_eq_true_iff, str_inj]
          simp only [Instr.findNow, e1, findE]
          by_cases hkk : k = k'
          · simp [hkk]
          · simp only [hkk, decide_false, if_false]; exact ih es (i + 1) h.2
    exact this ks es 0 hk

theorem run_eqPtr {kt t : TypeId} {i : TypeInfo} (h : P.underlying kt = some (.pointer t)) (hi : P.info? t = some i) (hz : i.size ≠ 0) {a b : Option Nat} {w : World} (ha : goodP w a) (hb : goodP w b) :
    (Op.equal kt (ekP a) (ekP b)).run P w = .ok (decide (a = b)) w := by
  unfold Op.equal Op.maxDepth Op.equalIn
  simp only [Sem.run_bind, run_underlying h, Result.andThen]
  cases a with
  | none => cases b <;> simp [ekP]
  | some a =>
    cases b with
    | none => simp [ekP]
    | some b =>
      have hs : szOf P t = some i.size := by unfold szOf; rw [hi]
      simp only [ekP, Option.map_some, Sem.run_bind, run_sizeOf hs, Result.andThen]
      rw [if_pos hz]
      by_cases e : a = b
      · subst e; rw [run_sameAddr_same]; simp
      · obtain ⟨c1, t1, h1⟩ := ha a rfl
        obtain ⟨c2, t2, h2⟩ := hb b rfl
        rw [run_sameAddr_other w (by simp [e]) h1 h2]
        simp [e]

theorem KeyT.ptr {kt t : TypeId} (h : P.underlying kt = some (.pointer t)) (hi : (P.info? t).map (fun i => decide (i.size ≠ 0)) = some true) : KeyT P kt ekP goodP where
  chk := fun e k w => by
    unfold Instr.checkKey
    simp only [Sem.run_bind, run_underlying h, Result.andThen]
    rfl
  stays := fun k w => by
    unfold Instr.keyThatStays
    have : Instr.sameBits 10000 (ekP k) (ekP k) = true := by simp [Instr.sameBits, ekP]
    rw [this]; rfl
  find := by
    intro k es ks w hk hg hgl
    cases hti : P.info? t with
    | none => rw [hti] at hi; cases hi
    | some i =>
    have hz : i.size ≠ 0 := by rw [hti] at hi; simpa using hi
    have asks : ∀ (ks : List (Option Nat)) (es : List MapEntry) (i : Nat), es.map (·.key) = ks.map ekP → (∀ k' ∈ ks, goodP w k') → (Instr.findAsking kt (ekP k) es i).run P w = .ok (findE k ks es i) w := by
      intro ks
      induction ks with
      | nil => intro es i h _; have : es = [] := by simpa using h
               subst this; rfl
      | cons k' ks ih =>
        intro es i h hg'
        cases es with
        | nil => simp at h
        | cons e es =>
          simp only [List.map_cons, List.cons.injEq] at h
          simp only [Instr.findAsking, Sem.run_bind, h.1, run_eqPtr ‹_› hti hz hg (hg' k' (.head _)), Result.andThen, findE]
          by_cases hkk : k = k'
          · simp [hkk]
          · simp only [hkk, decide_false, Bool.false_eq_true, if_false]; exact ih es (i + 1) h.2 fun x hx => hg' x (.tail _ hx)
    unfold Instr.findKey
    simp only [Sem.run_bind, run_underlying h, Result.andThen]
    cases es with
    | nil => have : ks = [] := by simpa using hk.symm
             subst this; rfl
    | cons e es =>
      have : Instr.findNow (.pointer t) (ekP k) (e :: es) 0 = none := by simp [Instr.findNow, Instr.sameNow]
      rw [this]
      exact asks ks (e :: es) 0 hk hgl

theorem zero_of {t : TypeId} {z : Value} (h : (P.info? t).bind (·.zero) = some z) (w : World) : (zeroValue t).run P w = .ok z w := by
  cases hi : P.info? t with
  | none => rw [hi] at h; cases h
  | some i => rw [hi] at h; exact run_zeroValue hi h w

end Go.Proofs.Ytocmjngleknlbaa.K

/-
  More short rules: what is known of a test; zero values, made slices, maps of texts.
-/
namespace Go.Proofs.Ytocmjngleknlbaa.K
open Go Go.Proofs
variable {P : Program} {Γ Γ' : Mem} {L L' L'' : List HP} {w w' : World} {A B : HP}

theorem brKT {c : Bool} {X Y : Prop} (h : c = true) (x : X) : Br c X Y := ⟨fun _ => x, fun e => by rw [h] at e; cases e⟩
theorem brKF {c : Bool} {X Y : Prop} (h : c = false) (y : Y) : Br c X Y := ⟨fun e => (by rw [h] at e; cases e), fun _ => y⟩

/-- a truth that is told, part by part -/
theorem kDec {p : Prop} [Decidable p] {K : Bool → World → Prop} (a : p → K true w) (b : ¬ p → K false w) : K (decide p) w := by
  by_cases h : p
  · rw [decide_eq_true h]; exact a h
  · rw [decide_eq_false h]; exact b h
theorem kBeq {x y : Int} {K : Bool → World → Prop} (a : x = y → K true w) (b : x ≠ y → K false w) : K (x == y) w := by
  by_cases h : x = y
  · rw [show (x == y) = true by simpa using h]; exact a h
  · rw [show (x == y) = false by simpa using h]; exact b h
theorem kBne {x y : Int} {K : Bool → World → Prop} (a : x ≠ y → K true w) (b : x = y → K false w) : K (x != y) w := by
  by_cases h : x = y
  · rw [show (x != y) = false by simpa using h]; exact b h
  · rw [show (x != y) = true by simpa using h]; exact a h
theorem kStr {x y : List UInt8} {K : Bool → World → Prop} (a : x = y → K true w) (b : x ≠ y → K false w) : K ((str x).toList == (str y).toList) w := by
  rw [str_toList, str_toList]
  by_cases h : x = y
  · rw [show (x == y) = true by simpa using h]; exact a h
  · rw [show (x == y) = false by simpa using h]; exact b h
theorem kNot {c : Bool} {K : Bool → World → Prop} (a : c = false → K true w) (b : c = true → K false w) : K (!c) w := by
  cases h : c
  · exact a h
  · exact b h
theorem kBool {c : Bool} {K : Bool → World → Prop} (a : c = true → K true w) (b : c = false → K false w) : K c w := by
  cases h : c
  · exact b h
  · exact a h

/-- the parts as they are told otherwise -/
theorem Sat.eqs (h : Sat Γ L w) (e : L = L') : Sat Γ L' w := e ▸ h

/-! ### several cells, told one by one -/

section
variable {b : Nat} {c : Array Value} {T : TypeId} {z : Nat × Nat} {o : Nat}
theorem ldA2 {s0 s1 : Sc} {K : ScsT [s0, s1] → Prop} (x0 : s0.T) (x1 : s1.T) (h : Sat Γ L w) (pk : Pick (blk b (.cells c T z)) L L') (k : K (x0, x1)) (hc : (c.toList.drop o).take 2 = [s0.v x0, s1.v x1] := by rfl) : Ld (fun w' => w' = w) (.agg [s0, s1]) ⟨b, o, none⟩ K := ldA (l := [s0, s1]) (x0, x1) h pk k hc
theorem ldHA2 {s0 s1 : Sc} {L0 : List HP} {K : ScsT [s0, s1] → Prop} (x0 : s0.T) (x1 : s1.T) (pk : Pick (blk b (.cells c T z)) L0 L') (k : K (x0, x1)) (hc : (c.toList.drop o).take 2 = [s0.v x0, s1.v x1] := by rfl) : Ld (Sx Γ L0) (.agg [s0, s1]) ⟨b, o, none⟩ K := ldHA (l := [s0, s1]) (x0, x1) pk k hc
theorem ldFA2 {s0 s1 : Sc} {K : ScsT [s0, s1] → Prop} (x0 : s0.T) (x1 : s1.T) (h : Sat Γ L w) (hb : Γ b = some (.cells c T z)) (k : K (x0, x1)) (hc : (c.toList.drop o).take 2 = [s0.v x0, s1.v x1] := by rfl) : Ld (fun w' => w' = w) (.agg [s0, s1]) ⟨b, o, none⟩ K := ldFA (l := [s0, s1]) (x0, x1) h hb k hc
theorem ldA3 {s0 s1 s2 : Sc} {K : ScsT [s0, s1, s2] → Prop} (x0 : s0.T) (x1 : s1.T) (x2 : s2.T) (h : Sat Γ L w) (pk : Pick (blk b (.cells c T z)) L L') (k : K (x0, x1, x2)) (hc : (c.toList.drop o).take 3 = [s0.v x0, s1.v x1, s2.v x2] := by rfl) : Ld (fun w' => w' = w) (.agg [s0, s1, s2]) ⟨b, o, none⟩ K := ldA (l := [s0, s1, s2]) (x0, x1, x2) h pk k hc
theorem ldHA3 {s0 s1 s2 : Sc} {L0 : List HP} {K : ScsT [s0, s1, s2] → Prop} (x0 : s0.T) (x1 : s1.T) (x2 : s2.T) (pk : Pick (blk b (.cells c T z)) L0 L') (k : K (x0, x1, x2)) (hc : (c.toList.drop o).take 3 = [s0.v x0, s1.v x1, s2.v x2] := by rfl) : Ld (Sx Γ L0) (.agg [s0, s1, s2]) ⟨b, o, none⟩ K := ldHA (l := [s0, s1, s2]) (x0, x1, x2) pk k hc
theorem ldFA3 {s0 s1 s2 : Sc} {K : ScsT [s0, s1, s2] → Prop} (x0 : s0.T) (x1 : s1.T) (x2 : s2.T) (h : Sat Γ L w) (hb : Γ b = some (.cells c T z)) (k : K (x0, x1, x2)) (hc : (c.toList.drop o).take 3 = [s0.v x0, s1.v x1, s2.v x2] := by rfl) : Ld (fun w' => w' = w) (.agg [s0, s1, s2]) ⟨b, o, none⟩ K := ldFA (l := [s0, s1, s2]) (x0, x1, x2) h hb k hc
theorem ldA4 {s0 s1 s2 s3 : Sc} {K : ScsT [s0, s1, s2, s3] → Prop} (x0 : s0.T) (x1 : s1.T) (x2 : s2.T) (x3 : s3.T) (h : Sat Γ L w) (pk : Pick (blk b (.cells c T z)) L L') (k : K (x0, x1, x2, x3)) (hc : (c.toList.drop o).take 4 = [s0.v x0, s1.v x1, s2.v x2, s3.v x3] := by rfl) : Ld (fun w' => w' = w) (.agg [s0, s1, s2, s3]) ⟨b, o, none⟩ K := ldA (l := [s0, s1, s2, s3]) (x0, x1, x2, x3) h pk k hc
theorem ldHA4 {s0 s1 s2 s3 : Sc} {L0 : List HP} {K : ScsT [s0, s1, s2, s3] → Prop} (x0 : s0.T) (x1 : s1.T) (x2 : s2.T) (x3 : s3.T) (pk : Pick (blk b (.cells c T z)) L0 L') (k : K (x0, x1, x2, x3)) (hc : (c.toList.drop o).take 4 = [s0.v x0, s1.v x1, s2.v x2, s3.v x3] := by rfl) : Ld (Sx Γ L0) (.agg [s0, s1, s2, s3]) ⟨b, o, none⟩ K := ldHA (l := [s0, s1, s2, s3]) (x0, x1, x2, x3) pk k hc
theorem ldFA4 {s0 s1 s2 s3 : Sc} {K : ScsT [s0, s1, s2, s3] → Prop} (x0 : s0.T) (x1 : s1.T) (x2 : s2.T) (x3 : s3.T) (h : Sat Γ L w) (hb : Γ b = some (.cells c T z)) (k : K (x0, x1, x2, x3)) (hc : (c.toList.drop o).take 4 = [s0.v x0, s1.v x1, s2.v x2, s3.v x3] := by rfl) : Ld (fun w' => w' = w) (.agg [s0, s1, s2, s3]) ⟨b, o, none⟩ K := ldFA (l := [s0, s1, s2, s3]) (x0, x1, x2, x3) h hb k hc
theorem ldA5 {s0 s1 s2 s3 s4 : Sc} {K : ScsT [s0, s1, s2, s3, s4] → Prop} (x0 : s0.T) (x1 : s1.T) (x2 : s2.T) (x3 : s3.T) (x4 : s4.T) (h : Sat Γ L w) (pk : Pick (blk b (.cells c T z)) L L') (k : K (x0, x1, x2, x3, x4)) (hc : (c.toList.drop o).take 5 = [s0.v x0, s1.v x1, s2.v x2, s3.v x3, s4.v x4] := by rfl) : Ld (fun w' => w' = w) (.agg [s0, s1, s2, s3, s4]) ⟨b, o, none⟩ K := ldA (l := [s0, s1, s2, s3, s4]) (x0, x1, x2, x3, x4) h pk k hc
theorem ldHA5 {s0 s1 s2 s3 s4 : Sc} {L0 : List HP} {K : ScsT [s0, s1, s2, s3, s4] → Prop} (x0 : s0.T) (x1 : s1.T) (x2 : s2.T) (x3 : s3.T) (x4 : s4.T) (pk : Pick (blk b (.cells c T z)) L0 L') (k : K (x0, x1, x2, x3, x4)) (hc : (c.toList.drop o).take 5 = [s0.v x0, s1.v x1, s2.v x2, s3.v x3, s4.v x4] := by rfl) : Ld (Sx Γ L0) (.agg [s0, s1, s2, s3, s4]) ⟨b, o, none⟩ K := ldHA (l := [s0, s1, s2, s3, s4]) (x0, x1, x2, x3, x4) pk k hc
theorem ldFA5 {s0 s1 s2 s3 s4 : Sc} {K : ScsT [s0, s1, s2, s3, s4] → Prop} (x0 : s0.T) (x1 : s1.T) (x2 : s2.T) (x3 : s3.T) (x4 : s4.T) (h : Sat Γ L w) (hb : Γ b = some (.cells c T z)) (k : K (x0, x1, x2, x3, x4)) (hc : (c.toList.drop o).take 5 = [s0.v x0, s1.v x1, s2.v x2, s3.v x3, s4.v x4] := by rfl) : Ld (fun w' => w' = w) (.agg [s0, s1, s2, s3, s4]) ⟨b, o, none⟩ K := ldFA (l := [s0, s1, s2, s3, s4]) (x0, x1, x2, x3, x4) h hb k hc
theorem ldA6 {s0 s1 s2 s3 s4 s5 : Sc} {K : ScsT [s0, s1, s2, s3, s4, s5] → Prop} (x0 : s0.T) (x1 : s1.T) (x2 : s2.T) (x3 : s3.T) (x4 : s4.T) (x5 : s5.T) (h : Sat Γ L w) (pk : Pick (blk b (.cells c T z)) L L') (k : K (x0, x1, x2, x3, x4, x5)) (hc : (c.toList.drop o).take 6 = [s0.v x0, s1.v x1, s2.v x2, s3.v x3, s4.v x4, s5.v x5] := by rfl) : Ld (fun w' => w' = w) (.agg [s0, s1, s2, s3, s4, s5]) ⟨b, o, none⟩ K := ldA (l := [s0, s1, s2, s3, s4, s5]) (x0, x1, x2, x3, x4, x5) h pk k hc
theorem ldHA6 {s0 s1 s2 s3 s4 s5 : Sc} {L0 : List HP} {K : ScsT [s0, s1, s2, s3, s4, s5] → Prop} (x0 : s0.T) (x1 : s1.T) (x2 : s2.T) (x3 : s3.T) (x4 : s4.T) (x5 : s5.T) (pk : Pick (blk b (.cells c T z)) L0 L') (k : K (x0, x1, x2, x3, x4, x5)) (hc : (c.toList.drop o).take 6 = [s0.v x0, s1.v x1, s2.v x2, s3.v x3, s4.v x4, s5.v x5] := by rfl) : Ld (Sx Γ L0) (.agg [s0, s1, s2, s3, s4, s5]) ⟨b, o, none⟩ K := ldHA (l := [s0, s1, s2, s3, s4, s5]) (x0, x1, x2, x3, x4, x5) pk k hc
theorem ldFA6 {s0 s1 s2 s3 s4 s5 : Sc} {K : ScsT [s0, s1, s2, s3, s4, s5] → Prop} (x0 : s0.T) (x1 : s1.T) (x2 : s2.T) (x3 : s3.T) (x4 : s4.T) (x5 : s5.T) (h : Sat Γ L w) (hb : Γ b = some (.cells c T z)) (k : K (x0, x1, x2, x3, x4, x5)) (hc : (c.toList.drop o).take 6 = [s0.v x0, s1.v x1, s2.v x2, s3.v x3, s4.v x4, s5.v x5] := by rfl) : Ld (fun w' => w' = w) (.agg [s0, s1, s2, s3, s4, s5]) ⟨b, o, none⟩ K := ldFA (l := [s0, s1, s2, s3, s4, s5]) (x0, x1, x2, x3, x4, x5) h hb k hc
theorem ldA7 {s0 s1 s2 s3 s4 s5 s6 : Sc} {K : ScsT [s0, s1, s2, s3, s4, s5, s6] → Prop} (x0 : s0.T) (x1 : s1.T) (x2 : s2.T) (x3 : s3.T) (x4 : s4.T) (x5 : s5.T) (x6 : s6.T) (h : Sat Γ L w) (pk : Pick (blk b (.cells c T z)) L L') (k : K (x0, x1, x2, x3, x4, x5, x6)) (hc : (c.toList.drop o).take 7 = [s0.v x0, s1.v x1, s2.v x2, s3.v x3, s4.v x4, s5.v x5, s6.v x6] := by rfl) : Ld (fun w' => w' = w) (.agg [s0, s1, s2, s3, s4, s5, s6]) ⟨b, o, none⟩ K := ldA (l := [s0, s1, s2, s3, s4, s5, s6]) (x0, x1, x2, x3, x4, x5, x6) h pk k hc
theorem ldHA7 {s0 s1 s2 s3 s4 s5 s6 : Sc} {L0 : List HP} {K : ScsT [s0, s1, s2, s3, s4, s5, s6] → Prop} (x0 : s0.T) (x1 : s1.T) (x2 : s2.T) (x3 : s3.T) (x4 : s4.T) (x5 : s5.T) (x6 : s6.T) (pk : Pick (blk b (.cells c T z)) L0 L') (k : K (x0, x1, x2, x3, x4, x5, x6)) (hc : (c.toList.drop o).take 7 = [s0.v x0, s1.v x1, s2.v x2, s3.v x3, s4.v x4, s5.v x5, s6.v x6] := by rfl) : Ld (Sx Γ L0) (.agg [s0, s1, s2, s3, s4, s5, s6]) ⟨b, o, none⟩ K := ldHA (l := [s0, s1, s2, s3, s4, s5, s6]) (x0, x1, x2, x3, x4, x5, x6) pk k hc
theorem ldFA7 {s0 s1 s2 s3 s4 s5 s6 : Sc} {K : ScsT [s0, s1, s2, s3, s4, s5, s6] → Prop} (x0 : s0.T) (x1 : s1.T) (x2 : s2.T) (x3 : s3.T) (x4 : s4.T) (x5 : s5.T) (x6 : s6.T) (h : Sat Γ L w) (hb : Γ b = some (.cells c T z)) (k : K (x0, x1, x2, x3, x4, x5, x6)) (hc : (c.toList.drop o).take 7 = [s0.v x0, s1.v x1, s2.v x2, s3.v x3, s4.v x4, s5.v x5, s6.v x6] := by rfl) : Ld (fun w' => w' = w) (.agg [s0, s1, s2, s3, s4, s5, s6]) ⟨b, o, none⟩ K := ldFA (l := [s0, s1, s2, s3, s4, s5, s6]) (x0, x1, x2, x3, x4, x5, x6) h hb k hc
theorem ldA8 {s0 s1 s2 s3 s4 s5 s6 s7 : Sc} {K : ScsT [s0, s1, s2, s3, s4, s5, s6, s7] → Prop} (x0 : s0.T) (x1 : s1.T) (x2 : s2.T) (x3 : s3.T) (x4 : s4.T) (x5 : s5.T) (x6 : s6.T) (x7 : s7.T) (h : Sat Γ L w) (pk : Pick (blk b (.cells c T z)) L L') (k : K (x0, x1, x2, x3, x4, x5, x6, x7)) (hc : (c.toList.drop o).take 8 = [s0.v x0, s1.v x1, s2.v x2, s3.v x3, s4.v x4, s5.v x5, s6.v x6, s7.v x7] := by rfl) : Ld (fun w' => w' = w) (.agg [s0, s1, s2, s3, s4, s5, s6, s7]) ⟨b, o, none⟩ K := ldA (l := [s0, s1, s2, s3, s4, s5, s6, s7]) (x0, x1, x2, x3, x4, x5, x6, x7) h pk k hc
theorem ldHA8 {s0 s1 s2 s3 s4 s5 s6 s7 : Sc} {L0 : List HP} {K : ScsT [s0, s1, s2, s3, s4, s5, s6, s7] → Prop} (x0 : s0.T) (x1 : s1.T) (x2 : s2.T) (x3 : s3.T) (x4 : s4.T) (x5 : s5.T) (x6 : s6.T) (x7 : s7.T) (pk : Pick (blk b (.cells c T z)) L0 L') (k : K (x0, x1, x2, x3, x4, x5, x6, x7)) (hc : (c.toList.drop o).take 8 = [s0.v x0, s1.v x1, s2.v x2, s3.v x3, s4.v x4, s5.v x5, s6.v x6, s7.v x7] := by rfl) : Ld (Sx Γ L0) (.agg [s0, s1, s2, s3, s4, s5, s6, s7]) ⟨b, o, none⟩ K := ldHA (l := [s0, s1, s2, s3, s4, s5, s6, s7]) (x0, x1, x2, x3, x4, x5, x6, x7) pk k hc
theorem ldFA8 {s0 s1 s2 s3 s4 s5 s6 s7 : Sc} {K : ScsT [s0, s1, s2, s3, s4, s5, s6, s7] → Prop} (x0 : s0.T) (x1 : s1.T) (x2 : s2.T) (x3 : s3.T) (x4 : s4.T) (x5 : s5.T) (x6 : s6.T) (x7 : s7.T) (h : Sat Γ L w) (hb : Γ b = some (.cells c T z)) (k : K (x0, x1, x2, x3, x4, x5, x6, x7)) (hc : (c.toList.drop o).take 8 = [s0.v x0, s1.v x1, s2.v x2, s3.v x3, s4.v x4, s5.v x5, s6.v x6, s7.v x7] := by rfl) : Ld (fun w' => w' = w) (.agg [s0, s1, s2, s3, s4, s5, s6, s7]) ⟨b, o, none⟩ K := ldFA (l := [s0, s1, s2, s3, s4, s5, s6, s7]) (x0, x1, x2, x3, x4, x5, x6, x7) h hb k hc
theorem ldA9 {s0 s1 s2 s3 s4 s5 s6 s7 s8 : Sc} {K : ScsT [s0, s1, s2, s3, s4, s5, s6, s7, s8] → Prop} (x0 : s0.T) (x1 : s1.T) (x2 : s2.T) (x3 : s3.T) (x4 : s4.T) (x5 : s5.T) (x6 : s6.T) (x7 : s7.T) (x8 : s8.T) (h : Sat Γ L w) (pk : Pick (blk b (.cells c T z)) L L') (k : K (x0, x1, x2, x3, x4, x5, x6, x7, x8)) (hc : (c.toList.drop o).take 9 = [s0.v x0, s1.v x1, s2.v x2, s3.v x3, s4.v x4, s5.v x5, s6.v x6, s7.v x7, s8.v x8] := by rfl) : Ld (fun w' => w' = w) (.agg [s0, s1, s2, s3, s4, s5, s6, s7, s8]) ⟨b, o, none⟩ K := ldA (l := [s0, s1, s2, s3, s4, s5, s6, s7, s8]) (x0, x1, x2, x3, x4, x5, x6, x7, x8) h pk k hc
theorem ldHA9 {s0 s1 s2 s3 s4 s5 s6 s7 s8 : Sc} {L0 : List HP} {K : ScsT [s0, s1, s2, s3, s4, s5, s6, s7, s8] → Prop} (x0 : s0.T) (x1 : s1.T) (x2 : s2.T) (x3 : s3.T) (x4 : s4.T) (x5 : s5.T) (x6 : s6.T) (x7 : s7.T) (x8 : s8.T) (pk : Pick (blk b (.cells c T z)) L0 L') (k : K (x0, x1, x2, x3, x4, x5, x6, x7, x8)) (hc : (c.toList.drop o).take 9 = [s0.v x0, s1.v x1, s2.v x2, s3.v x3, s4.v x4, s5.v x5, s6.v x6, s7.v x7, s8.v x8] := by rfl) : Ld (Sx Γ L0) (.agg [s0, s1, s2, s3, s4, s5, s6, s7, s8]) ⟨b, o, none⟩ K := ldHA (l := [s0, s1, s2, s3, s4, s5, s6, s7, s8]) (x0, x1, x2, x3, x4, x5, x6, x7, x8) pk k hc
theorem ldFA9 {s0 s1 s2 s3 s4 s5 s6 s7 s8 : Sc} {K : ScsT [s0, s1, s2, s3, s4, s5, s6, s7, s8] → Prop} (x0 : s0.T) (x1 : s1.T) (x2 : s2.T) (x3 : s3.T) (x4 : s4.T) (x5 : s5.T) (x6 : s6.T) (x7 : s7.T) (x8 : s8.T) (h : Sat Γ L w) (hb : Γ b = some (.cells c T z)) (k : K (x0, x1, x2, x3, x4, x5, x6, x7, x8)) (hc : (c.toList.drop o).take 9 = [s0.v x0, s1.v x1, s2.v x2, s3.v x3, s4.v x4, s5.v x5, s6.v x6, s7.v x7, s8.v x8] := by rfl) : Ld (fun w' => w' = w) (.agg [s0, s1, s2, s3, s4, s5, s6, s7, s8]) ⟨b, o, none⟩ K := ldFA (l := [s0, s1, s2, s3, s4, s5, s6, s7, s8]) (x0, x1, x2, x3, x4, x5, x6, x7, x8) h hb k hc
theorem ldA10 {s0 s1 s2 s3 s4 s5 s6 s7 s8 s9 : Sc} {K : ScsT [s0, s1, s2, s3, s4, s5, s6, s7, s8, s9] → Prop} (x0 : s0.T) (x1 : s1.T) (x2 : s2.T) (x3 : s3.T) (x4 : s4.T) (x5 : s5.T) (x6 : s6.T) (x7 : s7.T) (x8 : s8.T) (x9 : s9.T) (h : Sat Γ L w) (pk : Pick (blk b (.cells c T z)) L L') (k : K (x0, x1, x2, x3, x4, x5, x6, x7, x8, x9)) (hc : (c.toList.drop o).take 10 = [s0.v x0, s1.v x1, s2.v x2, s3.v x3, s4.v x4, s5.v x5, s6.v x6, s7.v x7, s8.v x8, s9.v x9] := by rfl) : Ld (fun w' => w' = w) (.agg [s0, s1, s2, s3, s4, s5, s6, s7, s8, s9]) ⟨b, o, none⟩ K := ldA (l := [s0, s1, s2, s3, s4, s5, s6, s7, s8, s9]) (x0, x1, x2, x3, x4, x5, x6, x7, x8, x9) h pk k hc
theorem ldHA10 {s0 s1 s2 s3 s4 s5 s6 s7 s8 s9 : Sc} {L0 : List HP} {K : ScsT [s0, s1, s2, s3, s4, s5, s6, s7, s8, s9] → Prop} (x0 : s0.T) (x1 : s1.T) (x2 : s2.T) (x3 : s3.T) (x4 : s4.T) (x5 : s5.T) (x6 : s6.T) (x7 : s7.T) (x8 : s8.T) (x9 : s9.T) (pk : Pick (blk b (.cells c T z)) L0 L') (k : K (x0, x1, x2, x3, x4, x5, x6, x7, x8, x9)) (hc : (c.toList.drop o).take 10 = [s0.v x0, s1.v x1, s2.v x2, s3.v x3, s4.v x4, s5.v x5, s6.v x6, s7.v x7, s8.v x8, s9.v x9] := by rfl) : Ld (Sx Γ L0) (.agg [s0, s1, s2, s3, s4, s5, s6, s7, s8, s9]) ⟨b, o, none⟩ K := ldHA (l := [s0, s1, s2, s3, s4, s5, s6, s7, s8, s9]) (x0, x1, x2, x3, x4, x5, x6, x7, x8, x9) pk k hc
theorem ldFA10 {s0 s1 s2 s3 s4 s5 s6 s7 s8 s9 : Sc} {K : ScsT [s0, s1, s2, s3, s4, s5, s6, s7, s8, s9] → Prop} (x0 : s0.T) (x1 : s1.T) (x2 : s2.T) (x3 : s3.T) (x4 : s4.T) (x5 : s5.T) (x6 : s6.T) (x7 : s7.T) (x8 : s8.T) (x9 : s9.T) (h : Sat Γ L w) (hb : Γ b = some (.cells c T z)) (k : K (x0, x1, x2, x3, x4, x5, x6, x7, x8, x9)) (hc : (c.toList.drop o).take 10 = [s0.v x0, s1.v x1, s2.v x2, s3.v x3, s4.v x4, s5.v x5, s6.v x6, s7.v x7, s8.v x8, s9.v x9] := by rfl) : Ld (fun w' => w' = w) (.agg [s0, s1, s2, s3, s4, s5, s6, s7, s8, s9]) ⟨b, o, none⟩ K := ldFA (l := [s0, s1, s2, s3, s4, s5, s6, s7, s8, s9]) (x0, x1, x2, x3, x4, x5, x6, x7, x8, x9) h hb k hc
end

/-! ### what is answered, told one by one -/

theorem ret2 {h1 h2 : Sh} {v : Value} {K : ShsT [h1, h2] → World → Prop} (a : h1.T) (b : h2.T) (k : K (a, b) w) (hv : v = .tuple #[(h1.mk a).v, (h2.mk b).v] := by rfl) : ∃ x, v = (Rs.tup [h1, h2]).v x ∧ K x w := ⟨(a, b), hv, k⟩
theorem ret3 {h1 h2 h3 : Sh} {v : Value} {K : ShsT [h1, h2, h3] → World → Prop} (a : h1.T) (b : h2.T) (c : h3.T) (k : K (a, b, c) w) (hv : v = .tuple #[(h1.mk a).v, (h2.mk b).v, (h3.mk c).v] := by rfl) : ∃ x, v = (Rs.tup [h1, h2, h3]).v x ∧ K x w := ⟨(a, b, c), hv, k⟩

theorem btoSH {L0 : List HP} {s : Sl} {K : ByteArray → Prop} {bs : List UInt8} (h : Bytes Γ s bs) (k : K (str bs)) : BtoS P (Sx Γ L0) s K := by
  refine ⟨_, ?_, k⟩
  rintro w' ⟨Γ', hl, hw⟩
  exact (h.mono hl).toS hw

end Go.Proofs.Ytocmjngleknlbaa.K

/-
  Loops over functions: what one that tells things one by one promises, and what is asked of the loop.
-/
namespace Go.Proofs.Ytocmjngleknlbaa.K
open Go Go.Proofs
variable {P : Program} {Γ Γ' : Mem} {L L' L'' : List HP} {w w' : World} {A B : HP}

/-- a block becomes another -/
theorem Sat.putObj {b : Nat} {o : Obj} (o' : Obj) (h : Sat Γ (blk b o :: L) w) : Sat Γ (blk b o' :: L) (w.putObj b o') :=
  h.set (World.putObj_heap_same (Array.getElem?_eq_some_iff.1 h.heap).1) (fun _ hc => World.putObj_heap_other hc)

/-- what a loop's record, or a mark, is asked for -/
theorem turn {b : Nat} {o o' : Obj} {X : World → Prop} (h : Sat Γ L w) (pk : Pick (blk b o) L L') (k : ∀ w', Sat Γ (blk b o' :: L') w' → X w') : w.heap[b]? = some o ∧ X (w.putObj b o') :=
  ⟨(h.pick pk).heap, k _ ((h.pick pk).putObj o')⟩

theorem callV {f : FuncId} {first cap args : List Value} {r : Rs} {K : r.T → World → Prop} (hb : hasBody P f = true) (k : CallP P f (first ++ args ++ cap) r K w) : CallV P (.func (.func f) first.toArray cap.toArray) args r K w :=
  ⟨.inl ⟨f, first, cap, rfl, hb, k⟩⟩

/-- a function that tells these things one by one, as long as it is told to go on; A is what it reads -/
def SeqV {α : Type} (P : Program) (v : Value) (A : HP) (xs : List α) (enc : Mem → List SV → α → Prop) : Prop :=
  ∃ f first cap, v = .func (.func f) (List.toArray first) (List.toArray cap) ∧ hasBody P f = true ∧ ∀ (Γ : Mem) (L : List HP) (w : World) (y : Value) (K : PUnit → World → Prop) (Q Qx : Nat → HP), IsF y → Sat Γ (A :: Q 0 :: L) w →
    (∀ (i : Nat) (x : α) (svs : List SV) (Γ' : Mem) (M : List HP) (w' : World) (K' : Bool → World → Prop), xs[i]? = some x → Γ.le Γ' → enc Γ' svs x → Sat Γ' (Q i :: M) w' →
      (∀ Γ'' w'', Γ'.le Γ'' → Sat Γ'' (Q (i + 1) :: M) w'' → K' true w'') → (∀ Γ'' w'', Γ'.le Γ'' → Sat Γ'' (Qx i :: M) w'' → K' false w'') → CallV P y (svs.map SV.v) (.one (.s .bool)) K' w') →
    (∀ Γ' w', Γ.le Γ' → Sat Γ' (A :: Q xs.length :: L) w' → K ⟨⟩ w') → (∀ i Γ' w', i < xs.length → Γ.le Γ' → Sat Γ' (A :: Qx i :: L) w' → K ⟨⟩ w') → CallP P f (first ++ [y] ++ cap) (.tup []) K w

/-- a loop over such a function -/
theorem rangeSeq {α : Type} {v : Value} {xs : List α} {enc : Mem → List SV → α → Prop} {R : Nat → (LS → Obj) → List SV → (Way → World → Prop) → World → Prop} {next : Nat → Way → World → Prop} (hs : SeqV P v A xs enc) (Q : Nat → HP) (Qx : Nat → Way → HP)
    (h : Sat Γ (A :: Q 0 :: L) w)
    (round : ∀ (i : Nat) (x : α) (l : Nat) (lo : LS → Obj) (svs : List SV) (Γ' : Mem) (M : List HP) (w' : World) (K : Way → World → Prop), xs[i]? = some x → Γ.le Γ' → enc Γ' svs x → Sat Γ' (blk l (lo .ready) :: Q i :: M) w' →
      (∀ Γ'' w'', Γ'.le Γ'' → Sat Γ'' (blk l (lo .busy) :: Q (i + 1) :: M) w'' → K .on w'') → (∀ wy Γ'' w'', wy ≠ .on → Γ'.le Γ'' → Sat Γ'' (blk l (lo .busy) :: Qx i wy :: M) w'' → K wy w'') → R l lo svs K w')
    (done : ∀ d Γ' w', Γ.le Γ' → Sat Γ' (blk d (.deferred (some [])) :: A :: Q xs.length :: L) w' → next d .on w')
    (jump : ∀ d i wy Γ' w', wy ≠ .on → i < xs.length → Γ.le Γ' → Sat Γ' (blk d (.deferred (some [])) :: A :: Qx i wy :: L) w' → next d wy w') : RangeF P v R next w := by
  obtain ⟨f, first, cap, hv, hb, hc⟩ := hs
  refine ⟨f, first, cap, hv, hb, fun lo y hyf hy => ?_⟩
  have h1 : Sat Γ (blk (w.heap.size + 1) (lo .ready) :: blk w.heap.size (.deferred (some [])) :: A :: Q 0 :: L) (World.loop w (lo .ready)) := by
    have h0 := (h.new (.deferred (some []))).new (lo .ready)
    have e : ({ w with heap := w.heap.push (.deferred (some [])) } : World).heap.size = w.heap.size + 1 := by simp
    rw [e] at h0
    exact h0
  have h2 : Sat Γ (A :: HP.all [blk (w.heap.size + 1) (lo .ready), Q 0] :: blk w.heap.size (.deferred (some [])) :: L) (World.loop w (lo .ready)) := by
    have a1 : Sat Γ ([blk (w.heap.size + 1) (lo .ready), Q 0] ++ (blk w.heap.size (.deferred (some [])) :: A :: L)) (World.loop w (lo .ready)) := (h1.pick (A := Q 0) .n3).pick .n1
    exact (Sat.all.2 a1).pick .n2
  refine hc Γ (blk w.heap.size (.deferred (some [])) :: L) _ y _ (fun i => HP.all [blk (w.heap.size + 1) (lo .ready), Q i]) (fun i => HP.ex fun wy : {wy : Way // wy ≠ .on} => HP.all [blk (w.heap.size + 1) (lo wy.1.ls), Qx i wy.1]) hyf h2 ?_ ?_ ?_
  · intro i x svs Γ' M w' K' hx hg he hq k1 k2
    have hq' : Sat Γ' (blk (w.heap.size + 1) (lo .ready) :: Q i :: M) w' := Sat.all.1 hq
    refine hy svs K' w' hq'.heap (round i x _ lo svs Γ' M w' _ hx hg he hq' ?_ ?_)
    · intro Γ'' w'' hg' h'
      exact ⟨h'.heap, k1 Γ'' _ hg' (Sat.all.2 (h'.putObj (lo .ready)))⟩
    · intro wy Γ'' w'' hne hg' h'
      have e : wy.b = false := by cases wy <;> first | rfl | exact absurd rfl hne
      refine ⟨h'.heap, ?_⟩
      rw [e]
      exact k2 Γ'' _ hg' (Sat.ex.2 ⟨⟨wy, hne⟩, Sat.all.2 (h'.putObj (lo wy.ls))⟩)
  · intro Γ' w' hg h'
    have h3 : Sat Γ' (blk (w.heap.size + 1) (lo .ready) :: Q xs.length :: A :: blk w.heap.size (.deferred (some [])) :: L) w' := Sat.all.1 (h'.pick (A := HP.all [blk (w.heap.size + 1) (lo .ready), Q xs.length]) .n1)
    have h4 := (h3.putObj (lo (.out .on))).drop
    exact ⟨.on, h3.heap, done _ Γ' _ hg ((h4.pick (A := A) .n1).pick .n2)⟩
  · intro i Γ' w' hi hg h'
    obtain ⟨⟨wy, hne⟩, h2⟩ := Sat.ex.1 (h'.pick (A := HP.ex fun wy : {wy : Way // wy ≠ .on} => HP.all [blk (w.heap.size + 1) (lo wy.1.ls), Qx i wy.1]) .n1)
    have h3 : Sat Γ' (blk (w.heap.size + 1) (lo wy.ls) :: Qx i wy :: A :: blk w.heap.size (.deferred (some [])) :: L) w' := Sat.all.1 h2
    have h4 := (h3.putObj (lo (.out wy))).drop
    exact ⟨wy, h3.heap, jump _ i wy Γ' _ hne hi hg ((h4.pick (A := A) .n1).pick .n2)⟩

end Go.Proofs.Ytocmjngleknlbaa.K

/-
  More rules: fields of what is owned, appends of what is owned, strings in order.
-/
namespace Go.Proofs.Ytocmjngleknlbaa.K
open Go Go.Proofs
variable {P : Program} {Γ Γ' : Mem} {L L' L'' : List HP} {w w' : World} {A B : HP}

section
variable {B0 B1 B2 B3 B4 B5 B6 B7 B8 B9 B10 B11 B12 B13 B14 : HP}
theorem Pick.n10 : Pick A (B0 :: B1 :: B2 :: B3 :: B4 :: B5 :: B6 :: B7 :: B8 :: B9 :: A :: L) (B0 :: B1 :: B2 :: B3 :: B4 :: B5 :: B6 :: B7 :: B8 :: B9 :: L) := .there .n9
theorem Pick.n11 : Pick A (B0 :: B1 :: B2 :: B3 :: B4 :: B5 :: B6 :: B7 :: B8 :: B9 :: B10 :: A :: L) (B0 :: B1 :: B2 :: B3 :: B4 :: B5 :: B6 :: B7 :: B8 :: B9 :: B10 :: L) := .there .n10
theorem Pick.n12 : Pick A (B0 :: B1 :: B2 :: B3 :: B4 :: B5 :: B6 :: B7 :: B8 :: B9 :: B10 :: B11 :: A :: L) (B0 :: B1 :: B2 :: B3 :: B4 :: B5 :: B6 :: B7 :: B8 :: B9 :: B10 :: B11 :: L) := .there .n11
theorem Pick.n13 : Pick A (B0 :: B1 :: B2 :: B3 :: B4 :: B5 :: B6 :: B7 :: B8 :: B9 :: B10 :: B11 :: B12 :: A :: L) (B0 :: B1 :: B2 :: B3 :: B4 :: B5 :: B6 :: B7 :: B8 :: B9 :: B10 :: B11 :: B12 :: L) := .there .n12
theorem Pick.n14 : Pick A (B0 :: B1 :: B2 :: B3 :: B4 :: B5 :: B6 :: B7 :: B8 :: B9 :: B10 :: B11 :: B12 :: B13 :: A :: L) (B0 :: B1 :: B2 :: B3 :: B4 :: B5 :: B6 :: B7 :: B8 :: B9 :: B10 :: B11 :: B12 :: B13 :: L) := .there .n13
end

theorem Sat.asA (h : Sat Γ (A :: L) w) (e : A = B) : Sat Γ (B :: L) w := e ▸ h
/-- a block's cells as they are told otherwise -/
theorem Sat.asC {b : Nat} {c c' : Array Value} {T : TypeId} {z : Nat × Nat} (h : Sat Γ (blk b (.cells c T z) :: L) w) (e : c = c') : Sat Γ (blk b (.cells c' T z) :: L) w := e ▸ h

/-! ### strings in order -/

theorem cmp_gt (x y : List UInt8) : (!(Op.bytesLess x y || x == y)) = decide (cmpB y x < 0) := by
  rw [bytesLess_cmpB]
  have h1 := cmpB_neg x y
  have h2 := cmpB_range x y
  have h3 := @cmpB_eq_zero x y
  by_cases he : x = y
  · subst he
    have h0 : cmpB x x = 0 := h3.2 rfl
    simp [h0]
  · have hne : (x == y) = false := by simpa using he
    rw [hne, Bool.or_false]
    have h0 : cmpB x y ≠ 0 := fun h => he (h3.1 h)
    by_cases hl : cmpB x y < 0
    · have : ¬ cmpB y x < 0 := by omega
      simp [hl, this]
    · have : cmpB y x < 0 := by omega
      simp [hl, this]

theorem cmp_ge (x y : List UInt8) : (!(Op.bytesLess x y)) = decide (¬ cmpB x y < 0) := by rw [bytesLess_cmpB]; exact (decide_not).symm

theorem cmp_le (x y : List UInt8) : (Op.bytesLess x y || x == y) = decide (¬ cmpB y x < 0) := by
  have := congrArg not (cmp_gt x y)
  rw [Bool.not_not] at this
  rw [this]
  exact (decide_not).symm

theorem brSgt {x y : List UInt8} {X Y : Prop} (a : cmpB y x < 0 → X) (b : ¬ cmpB y x < 0 → Y) : Br (!(Op.bytesLess (str x).toList (str y).toList || (str x).toList == (str y).toList)) X Y := by
  rw [str_toList, str_toList, cmp_gt]
  exact brD a b
theorem brSge {x y : List UInt8} {X Y : Prop} (a : ¬ cmpB x y < 0 → X) (b : cmpB x y < 0 → Y) : Br (!(Op.bytesLess (str x).toList (str y).toList)) X Y := by
  rw [str_toList, str_toList, bytesLess_cmpB]
  exact brNot (brD b a)
theorem brSle {x y : List UInt8} {X Y : Prop} (a : ¬ cmpB y x < 0 → X) (b : cmpB y x < 0 → Y) : Br (Op.bytesLess (str x).toList (str y).toList || (str x).toList == (str y).toList) X Y := by
  rw [str_toList, str_toList, cmp_le]
  exact brD a fun h => b (by omega)

/-! ### what is owned -/

section
variable {α : Type} {E : Enc α} {s : Sl} {xs : List α} {T : TypeId}

/-- a field of one thing in an owned row -/
theorem ldOf {a : Addr} {i n off : Nat} {x : α} {sc : Sc} {K : sc.T → Prop} (h : Sat Γ L w) (pk : Pick (OL E T s xs) L L') (v : E.sh.T → sc.T) (ha : s.p = some a) (e : xs[i]? = some x) (k : ∀ y, E.r Γ y x → K (v y))
    (hv : ∀ y, (E.sh.cells y)[off]? = some (sc.v (v y)) := by intro y; rfl) (hi : n = i * E.sh.sz := by rfl) (h0 : 0 < E.sh.sz := by decide) : Ld (fun w' => w' = w) (.s sc) ((a.add n).add off) K := by
  have hlen := h.olLen pk h0
  obtain ⟨ys, h1, h2⟩ := (h.pick pk).ol
  obtain ⟨y, hy, hr⟩ := h1.get e
  subst hi
  have hoff : off < E.sh.sz := by rw [← E.sh.cells_len y]; exact (List.getElem?_eq_some_iff.1 (hv y)).1
  obtain ⟨b, spare, e1, e2, e3⟩ := Own.place h2 (some_ne hlen e)
  rw [ha] at e1; cases e1
  rw [add_plain, add_plain, Nat.zero_add]
  refine ⟨v y, fun w' hw => ?_, k y hr⟩
  subst hw
  refine rd_of e3.heap (s := .s sc) (rdL_append (s := .s sc) ?_)
  show (ys.flatMap E.sh.cells)[i * E.sh.sz + off]? = some (sc.v (v y))
  rw [flatMap_get E.sh.cells_len ys i off y hy hoff]
  exact hv y

/-- a field of one thing in a frozen row, in a row of operations of whose order nothing is known -/
theorem ldLfH {L0 : List HP} {a : Addr} {i n off : Nat} {x : α} {sc : Sc} {K : sc.T → Prop} (hl : Lst E Γ s xs) (v : E.sh.T → sc.T) (ha : s.p = some a) (e : xs[i]? = some x) (k : ∀ y, E.r Γ y x → K (v y))
    (hv : ∀ y, (E.sh.cells y)[off]? = some (sc.v (v y)) := by intro y; rfl) (hi : n = i * E.sh.sz := by rfl) (h0 : 0 < E.sh.sz := by decide) : Ld (Sx Γ L0) (.s sc) ((a.add n).add off) K := by
  have hlen := hl.len h0
  obtain ⟨ys, h1, h2⟩ := hl
  obtain ⟨y, hy, hr⟩ := h2.get e
  have hne := some_ne hlen e
  have hsp := h1.spot hne ha
  subst hi
  have hoff : off < E.sh.sz := by rw [← E.sh.cells_len y]; exact (List.getElem?_eq_some_iff.1 (hv y)).1
  rw [add_add hsp]
  refine ldFzH (s := .s sc) (v y) h1 ha hne ?_ (k y hr)
  show (ys.flatMap E.sh.cells)[i * E.sh.sz + off]? = some (sc.v (v y))
  rw [flatMap_get E.sh.cells_len ys i off y hy hoff]
  exact hv y

theorem flatMap_set1 {α : Type} {f : α → List Value} {sz : Nat} (hf : ∀ x, (f x).length = sz) : ∀ (l : List α) (i j : Nat) (y y' : α) (v : Value), l[i]? = some y → j < sz → (f y).set j v = f y' → (l.flatMap f).set (i * sz + j) v = (l.set i y').flatMap f
  | [], i, j, y, y', v, h, _, _ => by simp at h
  | x :: r, 0, j, y, y', v, h, hj, hv => by
    simp only [List.getElem?_cons_zero, Option.some.injEq] at h
    subst h
    rw [List.flatMap_cons, Nat.zero_mul, Nat.zero_add, List.set_append, if_pos (by rw [hf]; exact hj), hv, List.set_cons_zero, List.flatMap_cons]
  | x :: r, i + 1, j, y, y', v, h, hj, hv => by
    simp only [List.getElem?_cons_succ] at h
    rw [List.flatMap_cons, List.set_append, if_neg (by rw [hf, Nat.succ_mul]; omega), List.set_cons_succ, List.flatMap_cons, hf]
    have e : (i + 1) * sz + j - sz = i * sz + j := by rw [Nat.succ_mul]; omega
    rw [e, flatMap_set1 hf r i j y y' v h hj hv]

/-- a field of one thing in an owned row is written -/
theorem stOf {a : Addr} {i n off : Nat} {v : Value} {K : World → Prop} {x : α} (f : E.sh.T → E.sh.T) (x' : α) (h : Sat Γ L w) (pk : Pick (OL E T s xs) L L') (ha : s.p = some a) (e : xs[i]? = some x) (hr : ∀ y, E.r Γ y x → E.r Γ (f y) x')
    (k : ∀ w', Sat Γ (OL E T s (xs.set i x') :: L') w' → K w') (hc : ∀ y, (E.sh.cells y).set off v = E.sh.cells (f y) := by intro y; rfl) (ho : off < E.sh.sz := by decide) (hv : v.oneCell' = true := by rfl) (hn : n = i * E.sh.sz := by rfl) : St ((a.add n).add off) v K w := by
  obtain ⟨ys, h1, h2⟩ := (h.pick pk).ol
  obtain ⟨y, hy, hry⟩ := h1.get e
  subst hn
  have hil : i < ys.length := (List.getElem?_eq_some_iff.1 hy).1
  have hle : i * E.sh.sz + E.sh.sz ≤ ys.length * E.sh.sz := by rw [← Nat.succ_mul]; exact Nat.mul_le_mul_right _ hil
  refine stOwn2 h2 .here ha (by rw [flatMap_length E.sh.cells_len]; omega) hv fun w' h' => k w' ?_
  rw [flatMap_set1 E.sh.cells_len ys i off y (f y) v hy ho (hc y)] at h'
  exact h'.toOl (h1.set (hr y hry))

theorem Src.own {cells : List Value} {sz : Nat} (h : Sat Γ (Own s T sz cells :: L) w) : Src w (.slice s.p s.len s.cap) s.len sz cells := by
  obtain ⟨hl, hc, ⟨h1, h2⟩ | ⟨b, spare, h1, h2, h3⟩⟩ := h.own
  · refine .inl ⟨s.cap, by rw [h1], ?_, ?_⟩
    · omega
    · have : s.len = 0 := by omega
      rw [this, Nat.zero_mul] at hl
      exact List.eq_nil_of_length_eq_zero hl
  · refine .inr ⟨_, s.cap, by rw [h1], hl, ?_⟩
    intro i v hv
    have hi : i < cells.length := (List.getElem?_eq_some_iff.1 hv).1
    rw [add_plain, Nat.zero_add, cell_of h3.heap, List.getElem?_toArray, List.getElem?_append_left hi]
    exact hv

/-- all of an owned slice is appended to another -/
theorem appO {t e by_ : Nat} {z : List Value} {T2 T3 : TypeId} {s2 : Sl} {zs : List α} {K : Sl → World → Prop} (ty : SlT P t e E.sh.sz by_ z) (h : Sat Γ L w) (pk : Pick (OL E e s xs) L L') (pk2 : Pick (OL E T3 s2 zs) L' L'')
    (k : ∀ s' w', s'.len = s.len + zs.length → Sat Γ (OL E e s' (xs ++ zs) :: L') w' → K s' w') (hb : (s.len + zs.length) * by_ ≤ 70368744177664 := by first | omega | (dsimp only; omega) | (dsimp only [Sl.sub]; omega)) (h0 : 0 < E.sh.sz := by decide) :
    Prim P (Builtin.append_ #[t, t] T2 #[.slice s.p s.len s.cap, .slice s2.p s2.len s2.cap]) (.one (.s .sl)) K w := by
  have hl2 := ((h.pick pk).drop).olLen pk2 h0
  obtain ⟨ys, h1, h2⟩ := (((h.pick pk).drop).pick pk2).ol
  have hs := Src.own h2
  have hs : Src w (.slice s2.p s2.len s2.cap) zs.length E.sh.sz (ys.flatMap E.sh.cells) := hl2 ▸ hs
  exact appN ty ty.self h pk hs h1 hb k

end

end Go.Proofs.Ytocmjngleknlbaa.K
