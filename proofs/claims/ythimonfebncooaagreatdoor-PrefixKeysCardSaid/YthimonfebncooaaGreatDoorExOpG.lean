/- One operation of the executor's against the model's: maps, assertions, lengths. -/
import Derived.Test.YthimonfebncooaaGreatDoorExOpF
namespace Go.Ex

section
variable {P : Program} {B : Nat} {μ : Mu} {H : Hp} {w : World}

theorem sameNow_eq {kind : TypeDesc} {key : TypeId} (hu : P.underlying key = some kind) {d : Nat} {a b : Value} {r r' : Bool} (h : Instr.sameNow kind a b = some r)
    (h' : (Op.equalIn (d + 1) key a b).run P w = .ok r' w) : r = r' := by
  unfold Instr.sameNow at h
  split at h
  · split at h
    · rename_i hk
      cases h
      simp [Op.equalIn, run_underlying hu, hk] at h'
      exact h'
    · cases h
  · cases h
    simp [Op.equalIn, run_underlying hu] at h'
    exact h'
  · cases h
    simp [Op.equalIn, run_underlying hu] at h'
    exact h'
  · cases h

def FindRel (μ : Mu) : Option (Nat × SV) → Option (Nat × Value) → Prop
  | none, none => True
  | some (i, s), some (j, v) => i = j ∧ ren μ s = some v
  | _, _ => False

theorem renM_some {e : ME} {m : MapEntry} (h : renM μ e = some m) : ren μ e.k = some m.key ∧ ren μ e.v = some m.val ∧ m.born = e.born := by
  simp only [renM] at h
  split at h
  · rename_i k v hk hv; cases h; exact ⟨hk, hv, rfl⟩
  · cases h

theorem findS_run {key : TypeId} {kind : TypeDesc} (hu : P.underlying key = some kind) {k : SV} {vk : Value} (hk : ren μ k = some vk) : ∀ {es : List ME} {l : List MapEntry} {i : Nat} {r : Option (Nat × SV)}, findS (eqS P eqDeep key) es i k = some r → mapO (renM μ) es = some l →
    ∃ r', (Instr.findAsking key vk l i).run P w = .ok r' w ∧ FindRel μ r r' ∧ (Instr.findNow kind vk l i = none ∨ Instr.findNow kind vk l i = some r')
  | [], l, i, r, h, hl => by
    simp [findS] at h; subst h
    simp [mapO] at hl; subst hl
    exact ⟨none, by simp [Instr.findAsking], trivial, .inr rfl⟩
  | e :: es, l, i, r, h, hl => by
    obtain ⟨m, ms, hm, hms, rfl⟩ := mapO_cons.1 hl
    obtain ⟨hmk, hmv, _⟩ := renM_some hm
    simp only [findS] at h
    split at h
    · rename_i he
      cases h
      have hq : (Op.equalIn 10000 key vk m.key).run P w = .ok true w := eqS_run he hk hmk
      refine ⟨some (i, m.val), ?_, ⟨rfl, hmv⟩, ?_⟩
      · simp [Instr.findAsking, Op.equal, Op.maxDepth, hq]
      · simp only [Instr.findNow]
        split
        · exact .inr rfl
        · rename_i hs
          have := sameNow_eq hu (d := 9999) hs hq
          cases this
        · exact .inl rfl
    · rename_i he
      have hq : (Op.equalIn 10000 key vk m.key).run P w = .ok false w := eqS_run he hk hmk
      obtain ⟨r', h1, h2, h3⟩ := findS_run hu hk h hms
      refine ⟨r', ?_, h2, ?_⟩
      · simp [Instr.findAsking, Op.equal, Op.maxDepth, hq, h1]
      · simp only [Instr.findNow]
        split
        · rename_i hs
          have := sameNow_eq hu (d := 9999) hs hq
          cases this
        · exact h3
        · exact .inl rfl
    · cases h

theorem findKey_run {key : TypeId} {kind : TypeDesc} (hu : P.underlying key = some kind) {k : SV} {vk : Value} (hk : ren μ k = some vk) {es : List ME} {l : List MapEntry} {r : Option (Nat × SV)} (h : findS (eqS P eqDeep key) es 0 k = some r) (hl : mapO (renM μ) es = some l) (w : World) :
    ∃ r', (Instr.findKey key vk l).run P w = .ok r' w ∧ FindRel μ r r' := by
  obtain ⟨r', h1, h2, h3⟩ := findS_run (w := w) hu hk h hl
  refine ⟨r', ?_, h2⟩
  rcases h3 with h3 | h3
  · simp [Instr.findKey, run_underlying hu, h3, h1]
  · simp [Instr.findKey, run_underlying hu, h3]

theorem keyFields_run {em : Bool} {d : Nat} {rec : TypeId → SV → Bool} (hrec : ∀ t s v, rec t s = true → ren μ s = some v → ∀ w, (Instr.checkKey em d t v).run P w = .ok () w) {cs : List SV} {vs : List Value} (hv : renL μ cs = some vs) (w : World) :
    ∀ {fs : List Field}, keyFields P rec cs fs = true →
    (forIn (m := Sem) fs PUnit.unit fun f (_ : PUnit) =>
        if f.name ≠ "_" then (do
          let a ← part f.type vs.toArray f.offset
          Instr.checkKey em d f.type a
          pure (ForInStep.yield PUnit.unit) : Sem (ForInStep PUnit))
        else pure (ForInStep.yield PUnit.unit)).run P w = .ok PUnit.unit w
  | [], _ => by simp
  | f :: fs, h => by
    simp only [keyFields] at h
    simp only [List.forIn_cons]
    split at h
    · rename_i hn
      have ih := keyFields_run hrec hv w h
      rw [Sem.run_bind]
      simp only [hn, ne_eq, not_true_eq_false, if_false]
      simpa using ih
    · rename_i hn
      split at h
      · rename_i a ha
        obtain ⟨va, h1, h2⟩ := partS_run ha hv w
        split at h
        · rename_i hr
          have h3 := hrec _ _ _ hr h2 w
          have ih := keyFields_run hrec hv w h
          rw [Sem.run_bind]
          simp only [hn, ne_eq, not_false_eq_true, if_true]
          simpa [h1, h3] using ih
        · cases h
      · cases h

theorem keyS_run {em : Bool} : ∀ {d : Nat} {t : TypeId} {s : SV} {v : Value}, keyS P d t s = true → ren μ s = some v → ∀ w, (Instr.checkKey em d t v).run P w = .ok () w
  | 0, _, _, _, h, _, _ => by simp [keyS] at h
  | d + 1, t, s, v, h, hv, w => by
    unfold keyS at h
    split at h
    · rename_i hu; unfold Instr.checkKey; simp [run_underlying hu]
    · rename_i hu; unfold Instr.checkKey; simp [run_underlying hu]
    · rename_i hu; unfold Instr.checkKey; simp [run_underlying hu]
    · rename_i fields cs hu
      obtain ⟨vs, hvs, rfl⟩ := agg_ren hv
      have := keyFields_run (em := em) (fun t s v hs hv w => keyS_run hs hv w) hvs w h
      unfold Instr.checkKey
      simp only [Sem.run_bind, run_underlying hu, Result.andThen_ok]
      rw [← Array.forIn_toList, this]
      rfl
    · cases h


theorem tup2 {a b : SV} {x y : Value} (h1 : ren μ a = some x) (h2 : ren μ b = some y) : ren μ (.tup [a, b]) = some (.tuple #[x, y]) := by
  simp [ren, renL, h1, h2]

/-- the map behind a value -/
theorem Rel.map (hR : Rel P B μ H w) {p : Nat} {x : Nat × Nat} {es : List ME} {clock : Nat} (hx : μ p = some x) (hp : H.get p = some (.map es clock)) :
    ∃ l, mapO (renM μ) es = some l ∧ w.heap[x.1]? = some (.map l.toArray clock) := hR.obj p _ x hp hx

theorem run_getObj {r : Nat} {l : List MapEntry} {clock : Nat} (h : w.heap[r]? = some (.map l.toArray clock)) : (getObj r).run P w = .ok (.map l.toArray clock) w := by
  simp only [getObj, Sem.run, h]

theorem lookupS_run (hR : Rel P B μ H w) {t : TypeId} {x k s : SV} {ok : Bool} {vx vk : Value} (h : lookupS P H t x k ok = some s) (hx : ren μ x = some vx) (hk : ren μ k = some vk) :
    ∃ v, (Instr.lookup t vx vk ok).run P w = .ok v w ∧ ren μ s = some v := by
  unfold lookupS at h
  split at h
  · rename_i key elem hu
    split at h
    · rename_i hkey
      have fin : ∀ (es : List ME) (l : List MapEntry) (r : Option (Nat × SV)), mapO (renM μ) es = some l → findS (eqS P eqDeep key) es 0 k = some r →
          (match r with
            | some (_, v) => some (if ok then SV.tup [v, .bool true] else v)
            | none => match zeroB P elem with
              | some z => some (if ok then SV.tup [z, .bool false] else z)
              | none => none) = some s →
          ∃ r' v, (∀ em, (Instr.checkKey em 10000 key vk).run P w = .ok () w) ∧ (Instr.findKey key vk l).run P w = .ok r' w ∧ ren μ s = some v ∧
            ((∃ j u, r' = some (j, u) ∧ v = if ok then .tuple #[u, .bool true] else u) ∨ (r' = none ∧ ∃ z, (zeroValue elem).run P w = .ok z w ∧ v = if ok then .tuple #[z, .bool false] else z)) := by
        intro es l r hl hf hs
        have hc := fun em => keyS_run (em := em) hkey hk w
        cases hkind : P.underlying key with
        | none => unfold keyS at hkey; simp [hkind] at hkey
        | some kind =>
          obtain ⟨r', h1, h2⟩ := findKey_run hkind hk hf hl w
          cases r with
          | none =>
            cases r' with
            | some q => exact h2.elim
            | none =>
              simp only at hs
              split at hs
              · rename_i z hz
                obtain ⟨zv, hz1, hz2⟩ := run_zero hz w
                cases hs
                cases ok with
                | true => exact ⟨none, _, hc, h1, tup2 (hz2 μ) rfl, .inr ⟨rfl, zv, hz1, rfl⟩⟩
                | false => exact ⟨none, _, hc, h1, hz2 μ, .inr ⟨rfl, zv, hz1, rfl⟩⟩
              · cases hs
          | some q =>
            cases r' with
            | none => exact h2.elim
            | some q' =>
              obtain ⟨i, sv⟩ := q
              obtain ⟨j, v⟩ := q'
              obtain ⟨_, h3⟩ := h2
              simp only at hs
              cases hs
              cases ok with
              | true => exact ⟨_, _, hc, h1, tup2 h3 rfl, .inl ⟨j, v, rfl, rfl⟩⟩
              | false => exact ⟨_, _, hc, h1, h3, .inl ⟨j, v, rfl, rfl⟩⟩
      split at h
      · rename_i es hes
        have h' : ∃ r, findS (eqS P eqDeep key) es 0 k = some r ∧ (match r with
            | some (_, v) => some (if ok then SV.tup [v, .bool true] else v)
            | none => match zeroB P elem with
              | some z => some (if ok then SV.tup [z, .bool false] else z)
              | none => none) = some s := by
          split at h
          · rename_i hf; exact ⟨_, hf, h⟩
          · rename_i hf; exact ⟨_, hf, h⟩
          · cases h
        obtain ⟨r, hf, hs⟩ := h'
        unfold esOf at hes
        unfold Instr.lookup
        simp only [Sem.run_bind, run_underlying hu, Result.andThen_ok]
        split at hes
        · cases hes
          simp only [ren] at hx; cases hx
          obtain ⟨r', v, g1, g2, g3, g4⟩ := fin [] [] r rfl hf hs
          refine ⟨v, ?_, g3⟩
          rcases g4 with ⟨j, u, rfl, rfl⟩ | ⟨rfl, z, hz, rfl⟩
          · simp [g1, g2]
          · simp [g1, g2, hz]
        · rename_i p
          obtain ⟨y, hy, rfl⟩ := map_ren hx
          split at hes
          · rename_i es' clock hp
            cases hes
            obtain ⟨l, hl, hh⟩ := hR.map hy hp
            obtain ⟨r', v, g1, g2, g3, g4⟩ := fin es l r hl hf hs
            refine ⟨v, ?_, g3⟩
            rcases g4 with ⟨j, u, rfl, rfl⟩ | ⟨rfl, z, hz, rfl⟩
            · simp [run_getObj hh, g1, g2]
            · simp [run_getObj hh, g1, g2, hz]
          · cases hes
        · cases hes
      · cases h
    · cases h
  · cases h

theorem sb0_run {a b : SV} {x y : Value} (h : sb0 a b = true) (ha : ren μ a = some x) (hb : ren μ b = some y) (n : Nat) : Instr.sameBits n x y = true := by
  unfold sb0 at h
  split at h
  · simp only [ren] at ha hb; cases ha; cases hb; simpa [Instr.sameBits] using h
  · simp only [ren] at ha hb; cases ha; cases hb; simpa [Instr.sameBits] using h
  · simp only [beq_iff_eq] at h; subst h
    rw [ha] at hb; cases hb
    obtain ⟨hlt, rfl⟩ := str_ren ha
    simp only [Instr.sameBits, bytes_eq hlt hlt, beq_self_eq_true]
  · cases h

theorem sbL_run : ∀ {a b : List SV} {x y : List Value}, sbL a b = true → renL μ a = some x → renL μ b = some y → x.length = y.length ∧ ∀ n, (x.zip y).all (fun (u, v) => Instr.sameBits n u v) = true
  | [], [], x, y, _, ha, hb => by simp [renL] at ha hb; subst ha; subst hb; simp
  | [], _ :: _, _, _, h, _, _ => by simp [sbL] at h
  | _ :: _, [], _, _, h, _, _ => by simp [sbL] at h
  | a :: l, b :: r, x, y, h, ha, hb => by
    obtain ⟨u, us, h1, h2, rfl⟩ := renL_cons.1 ha
    obtain ⟨v, vs, h3, h4, rfl⟩ := renL_cons.1 hb
    simp only [sbL, Bool.and_eq_true] at h
    obtain ⟨h5, h6⟩ := sbL_run h.2 h2 h4
    refine ⟨by simp [h5], fun n => ?_⟩
    simp only [List.zip_cons_cons, List.all_cons, sb0_run h.1 h1 h3 n, Bool.true_and]
    exact h6 n

theorem sbS_run {a b : SV} {x y : Value} (h : sbS a b = true) (ha : ren μ a = some x) (hb : ren μ b = some y) (n : Nat) : Instr.sameBits (n + 1) x y = true := by
  unfold sbS at h
  split at h
  · obtain ⟨u, h1, rfl⟩ := agg_ren ha
    obtain ⟨v, h2, rfl⟩ := agg_ren hb
    obtain ⟨h3, h4⟩ := sbL_run h h1 h2
    simp [Instr.sameBits, h3]
    have := h4 n
    simpa using this
  · exact sb0_run h ha hb _

theorem modME_run {k v : SV} {vk vv : Value} (hk : ren μ k = some vk) (hv : ren μ v = some vv) : ∀ {es : List ME} {l : List MapEntry} {i : Nat}, mapO (renM μ) es = some l →
    mapO (renM μ) (modME k v es i) = some (l.modify i fun e => { e with key := vk, val := vv })
  | [], l, i, h => by simp [mapO] at h; subst h; simp [modME, mapO]
  | e :: es, l, 0, h => by
    obtain ⟨m, ms, hm, hms, rfl⟩ := mapO_cons.1 h
    obtain ⟨_, _, hb⟩ := renM_some hm
    simp only [modME, List.modify_cons, if_true]
    refine mapO_cons.2 ⟨_, _, ?_, hms, rfl⟩
    simp [renM, hk, hv, hb]
  | e :: es, l, i + 1, h => by
    obtain ⟨m, ms, hm, hms, rfl⟩ := mapO_cons.1 h
    simp only [modME, List.modify_cons, Nat.add_eq_zero_iff, Nat.one_ne_zero, and_false, if_false, Nat.add_sub_cancel]
    exact mapO_cons.2 ⟨_, _, hm, modME_run hk hv hms, rfl⟩

theorem mapO_get {α β : Type} {f : α → Option β} : ∀ {l : List α} {r : List β} {i : Nat} {a : α}, mapO f l = some r → l[i]? = some a → ∃ b, r[i]? = some b ∧ f a = some b
  | [], _, i, a, _, h => by simp at h
  | x :: l, r, i, a, h, ha => by
    obtain ⟨u, us, h1, h2, rfl⟩ := mapO_cons.1 h
    cases i with
    | zero => simp at ha; subst ha; exact ⟨u, by simp, h1⟩
    | succ i => simp at ha; obtain ⟨b, h3, h4⟩ := mapO_get h2 ha; exact ⟨b, by simpa using h3, h4⟩

theorem mapO_append {α β : Type} {f : α → Option β} : ∀ {a b : List α} {x y : List β}, mapO f a = some x → mapO f b = some y → mapO f (a ++ b) = some (x ++ y)
  | [], b, x, y, ha, hb => by simp [mapO] at ha; subst ha; simpa using hb
  | s :: a, b, x, y, ha, hb => by
    obtain ⟨u, v, hu, hv, rfl⟩ := mapO_cons.1 ha
    exact mapO_cons.2 ⟨u, v ++ y, hu, mapO_append hv hb, rfl⟩

theorem setObj_run {r : Nat} {l : List MapEntry} {clock : Nat} (h : w.heap[r]? = some (.map l.toArray clock)) (o : Obj) : (setObj r o).run P w = .ok () { w with heap := w.heap.setIfInBounds r o } := by
  simp only [setObj, Sem.run, h]

theorem Rel.setMap (hR : Rel P B μ H w) {p : Nat} {x : Nat × Nat} {es : List ME} {clock : Nat} (hx : μ p = some x) (hp : H.get p = some (.map es clock)) {es' : List ME} {l' : List MapEntry} (clock' : Nat) (hl' : mapO (renM μ) es' = some l') :
    Rel P B μ (H.set p (.map es' clock')) { w with heap := w.heap.setIfInBounds x.1 (.map l'.toArray clock') } ∧ Step μ w μ { w with heap := w.heap.setIfInBounds x.1 (.map l'.toArray clock') } := by
  have hlt := hR.rng p x hx
  constructor
  · refine hR.upd hp rfl hx _ _ (by simp) ?_ (fun k hk => ?_) ⟨l', hl', rfl⟩
    · show (w.heap.setIfInBounds x.1 _)[x.1]? = _
      simp [hlt]
    · show (w.heap.setIfInBounds x.1 _)[k]? = _
      rw [Array.getElem?_setIfInBounds_ne (fun e => hk e.symm)]
  · refine ⟨Ext.refl _, fun p x h => .inl ⟨p, x, h, rfl⟩, rfl, rfl, rfl, by simp, fun k _ hn => ?_⟩
    show (w.heap.setIfInBounds x.1 _)[k]? = _
    rw [Array.getElem?_setIfInBounds_ne (fun e => hn p x hx e)]

theorem mapUpdS_run (hR : Rel P B μ H w) {t : TypeId} {x k s : SV} {H' : Hp} {vx vk vs : Value} (h : mapUpdS P H t x k s = some H') (hx : ren μ x = some vx) (hk : ren μ k = some vk) (hs : ren μ s = some vs) :
    ∃ w', (Instr.mapUpdate t vx vk vs).run P w = .ok () w' ∧ Rel P B μ H' w' ∧ Step μ w μ w' := by
  unfold mapUpdS at h
  split at h
  · rename_i key elem hu
    split at h
    · rename_i hkey
      split at h
      · rename_i p
        obtain ⟨y, hy, rfl⟩ := map_ren hx
        split at h
        · rename_i es clock hp
          obtain ⟨l, hl, hh⟩ := hR.map hy hp
          have hc := keyS_run (em := false) hkey hk w
          cases hkind : P.underlying key with
          | none => unfold keyS at hkey; simp [hkind] at hkey
          | some kind =>
            split at h
            · rename_i i sv hf
              obtain ⟨r', h1, h2⟩ := findKey_run hkind hk hf hl w
              cases r' with
              | none => exact h2.elim
              | some q =>
                obtain ⟨j, v⟩ := q
                obtain ⟨rfl, h3⟩ := h2
                split at h
                · rename_i e he
                  split at h
                  · rename_i hsb
                    cases h
                    rw [nth_eq] at he
                    obtain ⟨m, hm1, hm2⟩ := mapO_get hl he
                    obtain ⟨hmk, _, _⟩ := renM_some hm2
                    have hsame := sbS_run hsb hmk hk 9999
                    obtain ⟨g1, g2⟩ := hR.setMap hy hp clock (modME_run hk hs hl (i := i))
                    refine ⟨_, ?_, g1, g2⟩
                    simp only [Instr.mapUpdate, Sem.run_bind, run_underlying hu, Result.andThen_ok, run_getObj hh, hc, h1, Instr.keyThatStays, List.getElem?_toArray, hm1, Option.map_some, Option.getD_some, hsame, if_true, Sem.run_pure, setObj_run hh]
                    simp [List.modify_toArray]
                  · cases h
                · cases h
            · rename_i hf
              obtain ⟨r', h1, h2⟩ := findKey_run hkind hk hf hl w
              cases r' with
              | some q => exact h2.elim
              | none =>
                cases h
                have hnew : mapO (renM μ) (es ++ [{ k := k, v := s, born := clock }]) = some (l ++ [{ key := vk, val := vs, born := clock }]) :=
                  mapO_append hl (mapO_cons.2 ⟨_, [], by simp [renM, hk, hs], rfl, rfl⟩)
                obtain ⟨g1, g2⟩ := hR.setMap hy hp (clock + 1) hnew
                refine ⟨_, ?_, g1, g2⟩
                simp only [Instr.mapUpdate, Sem.run_bind, run_underlying hu, Result.andThen_ok, run_getObj hh, hc, h1, setObj_run hh]
                simp
            · cases h
        · cases h
      · cases h
    · cases h
  · cases h

end
end Go.Ex
