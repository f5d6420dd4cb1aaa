/- How many names lead to a node; what a change of the tree does to that. -/
import Derived.Test.YtpfaccpmgldkeaaGreatDoorRemove
import Derived.Test.YtpfaccpmgldkeaaGreatDoorLink
import Derived.Test.YtpfaccpmgldkeaaGreatDoorMark
namespace Go.Proofs.YtpfaccpmgldkeaaGreatDoor
open Go.RowKit Go.MapKept Go.ChangeMaps

theorem nodup_of_srt {κ ν : Type} {lt : κ → κ → Bool} (O : LtOk lt) {l : List (κ × ν)} (h : Srt lt l) : (l.map (·.1)).Nodup := by
  unfold Srt at h
  unfold List.Nodup
  rw [List.pairwise_map]
  exact h.imp fun {a b} hab e => by rw [e, O.irr] at hab; cases hab
section
variable {κ ν : Type} [DecidableEq κ]
theorem del_none {k : κ} {l : List (κ × ν)} (h : M.get l k = none) : M.del l k = l := by
  unfold M.del
  rw [List.filter_eq_self]
  intro p hp
  simp only [Bool.not_eq_true', decide_eq_false_iff_not]
  intro e
  unfold M.get at h
  rw [Option.map_eq_none_iff, List.find?_eq_none] at h
  exact h p hp (by simpa using e)
theorem del_put (lt : κ → κ → Bool) (k : κ) (v : ν) : ∀ l : List (κ × ν), M.del (M.put lt k v l) k = M.del l k
  | [] => by simp [M.put, M.del]
  | p :: l => by
    unfold M.put
    split
    · rename_i h; simp [M.del, h]
    · rename_i h
      split
      · simp [M.del]
      · have ih := del_put lt k v l
        unfold M.del at ih ⊢
        simp [h, ih]
theorem perm_get {k : κ} {v : ν} : ∀ {l : List (κ × ν)}, (l.map (·.1)).Nodup → M.get l k = some v → l.Perm ((k, v) :: M.del l k)
  | [], _, h => by simp [M.get] at h
  | p :: l, hn, h => by
    rw [List.map_cons, List.nodup_cons] at hn
    by_cases e : p.1 = k
    · have hv : p.2 = v := by simpa [M.get, e] using h
      have hd : M.del (p :: l) k = M.del l k := by simp [M.del, e]
      have hl : M.del l k = l := del_none (get_none fun v hm => hn.1 (e ▸ List.mem_map.2 ⟨_, hm, rfl⟩))
      rw [hd, hl, ← hv, ← e]
    · have hg : M.get l k = some v := by simpa [M.get, e] using h
      have hd : M.del (p :: l) k = p :: M.del l k := by simp [M.del, e]
      rw [hd]
      exact ((perm_get hn.2 hg).cons p).trans (List.Perm.swap _ _ _)
theorem put_perm {lt : κ → κ → Bool} (O : LtOk lt) (k : κ) (v : ν) {l : List (κ × ν)} (hs : Srt lt l) : (M.put lt k v l).Perm ((k, v) :: M.del l k) := by
  have h := perm_get (nodup_of_srt O (put_srt O k v l hs)) (k := k) (v := v) (by rw [get_put, if_pos rfl])
  rwa [del_put] at h
theorem sum_perm {l l' : List Nat} (h : l.Perm l') : l.sum = l'.sum := by
  induction h with
  | nil => rfl
  | cons x _ ih => simp [ih]
  | swap x y l => simp; omega
  | trans _ _ ih1 ih2 => exact ih1.trans ih2
theorem sum_del {lt : κ → κ → Bool} (O : LtOk lt) (f : κ × ν → Nat) (k : κ) {l : List (κ × ν)} (hs : Srt lt l) : ((M.del l k).map f).sum + ((M.get l k).map fun x => f (k, x)).getD 0 = (l.map f).sum := by
  cases h : M.get l k with
  | none => rw [del_none h]; simp
  | some x =>
    have := sum_perm ((perm_get (nodup_of_srt O hs) h).map f)
    rw [this]
    simp
    omega
theorem sum_put {lt : κ → κ → Bool} (O : LtOk lt) (f : κ × ν → Nat) (k : κ) (v : ν) {l : List (κ × ν)} (hs : Srt lt l) : ((M.put lt k v l).map f).sum + ((M.get l k).map fun x => f (k, x)).getD 0 = (l.map f).sum + f (k, v) := by
  have h1 := sum_perm ((put_perm O k v hs).map f)
  have h2 := sum_del O f k hs
  rw [List.map_cons, List.sum_cons] at h1
  omega
end

/-- How many names lead to a node: in one directory, and in all. -/
def tgt (l : List (M.Bs × Int)) (n : Int) : Nat := (l.map fun p => if p.2 = n then 1 else 0).sum
def cnt (s : M.St) (n : Int) : Nat := (s.nodes.map fun p => tgt p.2.names n).sum

theorem tgt_put {l : List (M.Bs × Int)} (hs : Srt M.ltB l) (m : M.Bs) (c n : Int) (hg : M.get l m = none) : tgt (M.put M.ltB m c l) n = tgt l n + (if c = n then 1 else 0) := by
  have := sum_put ltB_ok (fun p : M.Bs × Int => if p.2 = n then 1 else 0) m c hs
  rw [hg] at this
  simpa [tgt] using this
theorem tgt_del {l : List (M.Bs × Int)} (hs : Srt M.ltB l) {m : M.Bs} {c : Int} (n : Int) (hg : M.get l m = some c) : tgt (M.del l m) n + (if c = n then 1 else 0) = tgt l n := by
  have := sum_del ltB_ok (fun p : M.Bs × Int => if p.2 = n then 1 else 0) m hs
  rw [hg] at this
  simpa [tgt] using this
theorem tgt_pos {l : List (M.Bs × Int)} (hs : Srt M.ltB l) {m : M.Bs} {n : Int} (hg : M.get l m = some n) : 1 ≤ tgt l n := by
  have := tgt_del hs n hg
  rw [if_pos rfl] at this
  omega
theorem tgt_some {l : List (M.Bs × Int)} (hs : Srt M.ltB l) {n : Int} (h : 1 ≤ tgt l n) : ∃ m, M.get l m = some n := by
  by_cases hex : ∃ p ∈ l, p.2 = n
  · obtain ⟨p, hp, rfl⟩ := hex
    exact ⟨p.1, get_mem (nodup_of_srt ltB_ok hs) hp⟩
  · have : tgt l n = 0 := by
      clear h hs
      induction l with
      | nil => rfl
      | cons p l ih =>
        have h1 := ih (fun ⟨q, hq, e⟩ => hex ⟨q, List.mem_cons_of_mem _ hq, e⟩)
        unfold tgt at h1 ⊢
        rw [List.map_cons, List.sum_cons, if_neg (fun e => hex ⟨p, List.mem_cons_self, e⟩), h1]
    omega
theorem tgt_two {l : List (M.Bs × Int)} (hs : Srt M.ltB l) {m m' : M.Bs} {n : Int} (hg : M.get l m = some n) (hg' : M.get l m' = some n) (hne : m ≠ m') : 2 ≤ tgt l n := by
  have h1 := tgt_del hs n hg
  have h2 := tgt_pos (del_srt m hs) (m := m') (n := n) (by rw [get_del_eq, if_neg hne.symm]; exact hg')
  rw [if_pos rfl] at h1
  omega
theorem tgt_nil (n : Int) : tgt [] n = 0 := rfl

theorem nd_none {s : M.St} {n : Int} (h : s.has n = false) : s.nd n = {} := by
  unfold M.St.has at h
  unfold M.St.nd
  cases hg : M.get s.nodes n with
  | none => rfl
  | some x => rw [hg] at h; cases h
theorem get_has {s : M.St} {n : Int} {x : M.Nd} (h : M.get s.nodes n = some x) : s.has n = true ∧ s.nd n = x := by
  unfold M.St.has M.St.nd
  rw [h]; exact ⟨rfl, rfl⟩
theorem cnt_set {s : M.St} (hs : Srt M.ltI s.nodes) (d : Int) (y : M.Nd) (n : Int) : cnt (s.set d y) n + tgt (s.nd d).names n = cnt s n + tgt y.names n := by
  have := sum_put ltI_ok (fun p : Int × M.Nd => tgt p.2.names n) d y hs
  unfold cnt M.St.nd
  show (((M.put M.ltI d y s.nodes).map fun p => tgt p.2.names n).sum) + _ = _
  cases hg : M.get s.nodes d with
  | none => rw [hg] at this; exact this
  | some x => rw [hg] at this; exact this
theorem cnt_del {s s' : M.St} (hs : Srt M.ltI s.nodes) (d : Int) (n : Int) (h : s'.nodes = M.del s.nodes d) : cnt s' n + tgt (s.nd d).names n = cnt s n := by
  have := sum_del ltI_ok (fun p : Int × M.Nd => tgt p.2.names n) d hs
  unfold cnt M.St.nd
  rw [h]
  cases hg : M.get s.nodes d with
  | none => rw [hg] at this; exact this
  | some x => rw [hg] at this; exact this
theorem cnt_pos {s : M.St} (hs : Srt M.ltI s.nodes) {d : Int} {m : M.Bs} {n : Int} (hd : Srt M.ltB (s.nd d).names) (hg : M.get (s.nd d).names m = some n) : 1 ≤ cnt s n := by
  have h1 := cnt_set hs d {} n
  have h2 := tgt_pos hd hg
  simp only [tgt_nil] at h1
  omega
theorem cnt_two {s : M.St} (hs : Srt M.ltI s.nodes) {d : Int} {m m' : M.Bs} {n : Int} (hd : Srt M.ltB (s.nd d).names) (hg : M.get (s.nd d).names m = some n) (hg' : M.get (s.nd d).names m' = some n) (hne : m ≠ m') : 2 ≤ cnt s n := by
  have h1 := cnt_set hs d {} n
  have h2 := tgt_two hd hg hg' hne
  simp only [tgt_nil] at h1
  omega
theorem cnt_congr {s s' : M.St} (h : s'.nodes.map (fun p => p.2.names) = s.nodes.map fun p => p.2.names) (n : Int) : cnt s' n = cnt s n := by
  unfold cnt
  have e : ∀ l : List (Int × M.Nd), l.map (fun p => tgt p.2.names n) = (l.map fun p => p.2.names).map fun x => tgt x n := fun l => by rw [List.map_map]; rfl
  rw [e, e, h]

/-- A directory is one, or lies below it. -/
inductive Sub (s : M.St) (n : Int) : Int → Prop
  | refl : Sub s n n
  | step {m : Int} : m ≠ n → s.has m = true → (s.nd m).above ≠ 0 → Sub s n (s.nd m).above → Sub s n m

/-- A tree behind at most k operations; d: how far a directory is from the root; x: a node that is on its way (0: none). -/
structure Wz (x : Int) (k : Int) (d : Int → Nat) (s : M.St) : Prop where
  srt : Srt M.ltI s.nodes
  root : s.has 1 = true
  rootK : (s.nd 1).kind = 2
  rootA : (s.nd 1).above = 0
  rootL : (s.nd 1).links = 1
  last : 1 ≤ s.last ∧ s.last ≤ k + 1
  num : ∀ n, s.has n = true → 1 ≤ n ∧ n ≤ s.last
  kind : ∀ n, s.has n = true → (s.nd n).kind = 1 ∨ (s.nd n).kind = 2 ∨ (s.nd n).kind = 3
  leaf : ∀ n, s.has n = true → (s.nd n).kind ≠ 2 → (s.nd n).names = [] ∧ (s.nd n).above = 0
  nsrt : ∀ n, s.has n = true → Srt M.ltB (s.nd n).names
  child : ∀ n, s.has n = true → ∀ m c, M.get (s.nd n).names m = some c → s.has c = true ∧ c ≠ 1 ∧ m.length ≤ 24 ∧ M.slash ∉ m ∧ m ≠ [] ∧ ((s.nd c).kind = 2 → (s.nd c).above = n)
  up : ∀ n, n ≠ x → s.has n = true → (s.nd n).above ≠ 0 → s.has (s.nd n).above = true ∧ (s.nd (s.nd n).above).kind = 2 ∧ ∃ m, M.get (s.nd (s.nd n).above).names m = some n
  tall : ∀ n, n ≠ x → s.has n = true → (s.nd n).above ≠ 0 → d n = d (s.nd n).above + 1 ∧ d n ≤ 20
  droot : d 1 = 0
  det : ∀ n, n ≠ x → s.has n = true → (s.nd n).kind = 2 → n ≠ 1 → (s.nd n).above = 0 → (s.nd n).names = []
  cnt : ∀ n, n ≠ x → s.has n = true → n ≠ 1 → (s.nd n).links = cnt s n
  dlk : ∀ n, n ≠ x → s.has n = true → (s.nd n).kind = 2 → n ≠ 1 → (s.nd n).links ≤ 1
  most : ∀ n, s.has n = true → ((s.nd n).names.length : Int) ≤ (s.nd n).most ∧ (s.nd n).most ≤ k
  links : ∀ n, s.has n = true → 0 ≤ (s.nd n).links ∧ (s.nd n).links ≤ k + 1
  high : ∀ n, s.has n = true → 0 ≤ (s.nd n).high ∧ (s.nd n).high ≤ 5000
  data : ∀ n, s.has n = true → (s.nd n).data.length ≤ 20736 ∧ (s.nd n).written.length ≤ 162
  target : ∀ n, s.has n = true → (s.nd n).kind = 3 → (s.nd n).data.length ≤ 100
  dir : ∀ n, s.has n = true → (s.nd n).kind = 2 → (s.nd n).data = [] ∧ (s.nd n).written = []
  fds : ∀ i, (s.fds i).opn = true → s.has (s.fds i).node = true ∧ (0 ≤ (s.fds i).off ∧ (s.fds i).off ≤ 1099511627776) ∧ (0 ≤ (s.fds i).flags ∧ (s.fds i).flags < 64)
  fd16 : ∀ i, (s.fds i).opn = true → i < 16
  fdk : ∀ i, (s.fds i).opn = true → (s.nd (s.fds i).node).kind ≠ 3
  past : 0 ≤ s.past ∧ s.past ≤ 5000 * k
  went : 0 ≤ s.went ∧ s.went ≤ k

section
variable {x k : Int} {d : Int → Nat} {s : M.St}
theorem Wz.cpos (h : Wz x k d s) {n : Int} (hn : s.has n = true) {m : M.Bs} {c : Int} (hg : M.get (s.nd n).names m = some c) : 1 ≤ Go.Proofs.YtpfaccpmgldkeaaGreatDoor.cnt s c := cnt_pos h.srt (h.nsrt n hn) hg
theorem Wz.lk (h : Wz 0 k d s) {n : Int} (hn : s.has n = true) {m : M.Bs} {c : Int} (hg : M.get (s.nd n).names m = some c) : 1 ≤ (s.nd c).links := by
  have h1 := h.child n hn m c hg
  have h2 := h.num c h1.1
  rw [h.cnt c (by omega) h1.1 h1.2.1]
  have := h.cpos hn hg
  omega
theorem Wz.ne0 (h : Wz x k d s) {n : Int} (hn : s.has n = true) : n ≠ 0 := by have := h.num n hn; omega
theorem Wz.wf (h : Wz 0 k d s) : Wf k s where
  srt := h.srt
  root := h.root
  rootK := h.rootK
  rootA := h.rootA
  last := h.last
  num := h.num
  kind := h.kind
  leaf := h.leaf
  nsrt := h.nsrt
  child := h.child
  one := fun n hn m m' c h1 h2 hk => by
    by_cases e : m = m'
    · exact e
    · have a1 := cnt_two h.srt (h.nsrt n hn) h1 h2 e
      have a2 := h.child n hn m c h1
      have a3 := h.cnt c (h.ne0 a2.1) a2.1 a2.2.1
      have a4 := h.dlk c (h.ne0 a2.1) a2.1 hk a2.2.1
      omega
  up := fun n hn => h.up n (h.ne0 hn) hn
  tall := ⟨d, fun n hn => h.tall n (h.ne0 hn) hn⟩
  most := h.most
  links := h.links
  high := h.high
  data := h.data
  target := h.target
  dir := h.dir
  fds := h.fds
  fdk := h.fdk
  past := h.past
  went := h.went
theorem Wz.mono (h : Wz x k d s) {k' : Int} (hk : k ≤ k') : Wz x k' d s where
  srt := h.srt
  root := h.root
  rootK := h.rootK
  rootA := h.rootA
  rootL := h.rootL
  last := ⟨h.last.1, by have := h.last.2; omega⟩
  num := h.num
  kind := h.kind
  leaf := h.leaf
  nsrt := h.nsrt
  child := h.child
  up := h.up
  tall := h.tall
  droot := h.droot
  det := h.det
  cnt := h.cnt
  dlk := h.dlk
  most := fun n hn => ⟨(h.most n hn).1, by have := (h.most n hn).2; omega⟩
  links := fun n hn => ⟨(h.links n hn).1, by have := (h.links n hn).2; omega⟩
  high := h.high
  data := h.data
  target := h.target
  dir := h.dir
  fds := h.fds
  fd16 := h.fd16
  fdk := h.fdk
  past := ⟨h.past.1, by have := h.past.2; omega⟩
  went := ⟨h.went.1, by have := h.went.2; omega⟩

/-- A change that leaves alone whose names lead where. -/
theorem Wz.soft (h : Wz x k d s) {s' : M.St} (hns : s'.nodes.map (fun p => p.2.names) = s.nodes.map fun p => p.2.names) (hs : Srt M.ltI s'.nodes) (hh : ∀ n, s'.has n = s.has n) (hl : s'.last = s.last) (hp : s'.past = s.past ∨ s'.past = 0) (hw : s'.went = s.went ∨ s'.went = 0)
    (hk : ∀ n, (s'.nd n).kind = (s.nd n).kind ∧ (s'.nd n).names = (s.nd n).names ∧ (s'.nd n).above = (s.nd n).above ∧ (s'.nd n).links = (s.nd n).links ∧ (s'.nd n).most = (s.nd n).most)
    (hhi : ∀ n, s.has n = true → 0 ≤ (s'.nd n).high ∧ (s'.nd n).high ≤ 5000)
    (hd : ∀ n, s.has n = true → (s'.nd n).data.length ≤ 20736 ∧ (s'.nd n).written.length ≤ 162)
    (htg : ∀ n, s.has n = true → (s.nd n).kind ≠ 1 → (s'.nd n).data = (s.nd n).data ∧ (s'.nd n).written = (s.nd n).written)
    (hf : ∀ i, (s'.fds i).opn = true → s.has (s'.fds i).node = true ∧ (0 ≤ (s'.fds i).off ∧ (s'.fds i).off ≤ 1099511627776) ∧ (0 ≤ (s'.fds i).flags ∧ (s'.fds i).flags < 64))
    (hf16 : ∀ i, (s'.fds i).opn = true → i < 16) (hfk : ∀ i, (s'.fds i).opn = true → (s.nd (s'.fds i).node).kind ≠ 3) : Wz x k d s' where
  srt := hs
  root := by rw [hh]; exact h.root
  rootK := by rw [(hk 1).1]; exact h.rootK
  rootA := by rw [(hk 1).2.2.1]; exact h.rootA
  rootL := by rw [(hk 1).2.2.2.1]; exact h.rootL
  last := by rw [hl]; exact h.last
  num := fun n hn => by rw [hl]; rw [hh] at hn; exact h.num n hn
  kind := fun n hn => by rw [hh] at hn; rw [(hk n).1]; exact h.kind n hn
  leaf := fun n hn hk2 => by rw [hh] at hn; rw [(hk n).1] at hk2; rw [(hk n).2.1, (hk n).2.2.1]; exact h.leaf n hn hk2
  nsrt := fun n hn => by rw [hh] at hn; rw [(hk n).2.1]; exact h.nsrt n hn
  child := fun n hn m c hg => by
    rw [hh] at hn
    rw [(hk n).2.1] at hg
    rw [hh, (hk c).1, (hk c).2.2.1]
    exact h.child n hn m c hg
  up := fun n hx hn ha => by
    rw [hh] at hn
    rw [(hk n).2.2.1] at ha ⊢
    rw [hh, (hk _).1, (hk _).2.1]
    exact h.up n hx hn ha
  tall := fun n hx hn ha => by
    rw [hh] at hn
    rw [(hk n).2.2.1] at ha ⊢
    exact h.tall n hx hn ha
  droot := h.droot
  det := fun n hx hn => by
    rw [hh] at hn
    rw [(hk n).1, (hk n).2.1, (hk n).2.2.1]
    exact h.det n hx hn
  cnt := fun n hx hn h1 => by
    rw [hh] at hn
    rw [(hk n).2.2.2.1, cnt_congr hns]
    exact h.cnt n hx hn h1
  dlk := fun n hx hn => by
    rw [hh] at hn
    rw [(hk n).1, (hk n).2.2.2.1]
    exact h.dlk n hx hn
  most := fun n hn => by
    rw [hh] at hn
    rw [(hk n).2.1, (hk n).2.2.2.2]
    exact h.most n hn
  links := fun n hn => by
    rw [hh] at hn
    rw [(hk n).2.2.2.1]
    exact h.links n hn
  high := fun n hn => by rw [hh] at hn; exact hhi n hn
  data := fun n hn => by rw [hh] at hn; exact hd n hn
  target := fun n hn hk3 => by
    rw [hh] at hn
    rw [(hk n).1] at hk3
    rw [(htg n hn (by omega)).1]
    exact h.target n hn hk3
  dir := fun n hn hk2 => by
    rw [hh] at hn
    rw [(hk n).1] at hk2
    rw [(htg n hn (by omega)).1, (htg n hn (by omega)).2]
    exact h.dir n hn hk2
  fds := fun i hi => by rw [hh]; exact hf i hi
  fd16 := hf16
  fdk := fun i hi => by rw [(hk _).1]; exact hfk i hi
  past := by rcases hp with e | e <;> (have := h.past; have := h.went; have := h.last; rw [e]; omega)
  went := by rcases hw with e | e <;> (have := h.past; have := h.went; have := h.last; rw [e]; omega)
end
end Go.Proofs.YtpfaccpmgldkeaaGreatDoor
